/-
  A State of package server as a block of 234 cells: what stands in it, what a store makes of it. No condition but those that each theorem states.
-/
import Derived.Test.YtolgaapiedbkfaaGreatZg1
import Derived.Deep.MidRow
import Derived.WalkKit
import Derived.ProofKit
import Derived.Laws.BytesArg
import Derived.Lib.SlBytesConst
import Derived.BigRegion
import Derived.Deep.RegionHeld3
import Derived.Deep.CutBlock
import Derived.Deep.CutRange
import Derived.Deep.WholeRow
import Derived.WalkSpells
import Derived.WalkLawsBesides
import Derived.Lib.Hide
import Derived.Deep.QuietTactic
import Derived.BigQuiet
namespace Go.Proofs.YtolgaapiedbkfaaGreat
open Go.RowKit Go.Kx
set_option linter.unusedVariables false

/-- The cells of a State lie in block r. -/
def StB (w : World) (r : Nat) (t : TypeId) (ph : Int) (lg : Value) (sm : List UInt8) (a b c d : Int) (sl : Bool) (pt us : Value) (al : Int) : Prop :=
  ∃ C, w.heap[r]? = some (.cells C t (0, 0)) ∧ StC C ph lg sm a b c d sl pt us al

theorem only_cell {q : Nat → Prop} {w w' : World} {p : Addr} (h : Only q w w') (hb : p.block < w.heap.size) (hq : ¬ q p.block) : w'.cell? p = w.cell? p := World.cell?_of_block (w := w) (w' := w') (h.block _ hb hq)

section
variable {w w' : World} {r : Nat} {t : TypeId} {ph : Int} {lg : Value} {sm : List UInt8} {a b c d : Int} {sl : Bool} {pt us : Value} {al : Int}

theorem StB.new (w : World) (t : TypeId) {C : Array Value} (h : StC C ph lg sm a b c d sl pt us al) : StB (w.alloc (.cells C t)) w.heap.size t ph lg sm a b c d sl pt us al := ⟨C, heap_alloc_new w _, h⟩
theorem StB.lt (h : StB w r t ph lg sm a b c d sl pt us al) : r < w.heap.size := by obtain ⟨C, hC, _⟩ := h; exact (Array.getElem?_eq_some_iff.1 hC).1
theorem StB.only {q : Nat → Prop} (h : StB w r t ph lg sm a b c d sl pt us al) (ho : Only q w w') (hq : ¬ q r) : StB w' r t ph lg sm a b c d sl pt us al := by
  obtain ⟨C, hC, h⟩ := id h
  exact ⟨C, (ho.block r (StB.lt ⟨C, hC, h⟩) hq).trans hC, h⟩
theorem StB.below (h : StB w r t ph lg sm a b c d sl pt us al) (hb : Below w.heap.size w w') : StB w' r t ph lg sm a b c d sl pt us al := h.only (Only.of_below (r := fun _ => False) hb) (fun h => h)
theorem StB.fr (h : StB w r t ph lg sm a b c d sl pt us al) (o : Nat) : w.frozen? ⟨r, o, none⟩ = false := by
  obtain ⟨C, hC, _⟩ := h
  simp [World.frozen?, hC]
theorem StB.cellC {C : Array Value} (h : w.heap[r]? = some (.cells C t (0, 0))) (o : Nat) : w.cell? ⟨r, o, none⟩ = C[o]? := by simp [World.cell?, h]
theorem StB.c0 (h : StB w r t ph lg sm a b c d sl pt us al) : w.cell? ⟨r, 0, none⟩ = some (.int .i64 ph) := by obtain ⟨C, hC, h⟩ := h; rw [StB.cellC hC]; exact h.e0
theorem StB.c1 (h : StB w r t ph lg sm a b c d sl pt us al) : w.cell? ⟨r, 1, none⟩ = some lg := by obtain ⟨C, hC, h⟩ := h; rw [StB.cellC hC]; exact h.e1
theorem StB.c226 (h : StB w r t ph lg sm a b c d sl pt us al) : w.cell? ⟨r, 226, none⟩ = some (.int .i64 a) := by obtain ⟨C, hC, h⟩ := h; rw [StB.cellC hC]; exact h.e226
theorem StB.c227 (h : StB w r t ph lg sm a b c d sl pt us al) : w.cell? ⟨r, 227, none⟩ = some (.int .i64 b) := by obtain ⟨C, hC, h⟩ := h; rw [StB.cellC hC]; exact h.e227
theorem StB.c228 (h : StB w r t ph lg sm a b c d sl pt us al) : w.cell? ⟨r, 228, none⟩ = some (.int .i64 c) := by obtain ⟨C, hC, h⟩ := h; rw [StB.cellC hC]; exact h.e228
theorem StB.c229 (h : StB w r t ph lg sm a b c d sl pt us al) : w.cell? ⟨r, 229, none⟩ = some (.int .i64 d) := by obtain ⟨C, hC, h⟩ := h; rw [StB.cellC hC]; exact h.e229
theorem StB.c230 (h : StB w r t ph lg sm a b c d sl pt us al) : w.cell? ⟨r, 230, none⟩ = some (.bool sl) := by obtain ⟨C, hC, h⟩ := h; rw [StB.cellC hC]; exact h.e230
theorem StB.c231 (h : StB w r t ph lg sm a b c d sl pt us al) : w.cell? ⟨r, 231, none⟩ = some pt := by obtain ⟨C, hC, h⟩ := h; rw [StB.cellC hC]; exact h.e231
theorem StB.c232 (h : StB w r t ph lg sm a b c d sl pt us al) : w.cell? ⟨r, 232, none⟩ = some us := by obtain ⟨C, hC, h⟩ := h; rw [StB.cellC hC]; exact h.e232
theorem StB.c233 (h : StB w r t ph lg sm a b c d sl pt us al) : w.cell? ⟨r, 233, none⟩ = some (.int .i64 al) := by obtain ⟨C, hC, h⟩ := h; rw [StB.cellC hC]; exact h.e233

theorem heap_setCell {C : Array Value} (h : w.heap[r]? = some (.cells C t (0, 0))) (o : Nat) (v : Value) : (w.setCell ⟨r, o, none⟩ v).heap[r]? = some (.cells (C.setIfInBounds o v) t (0, 0)) := by
  simp [World.setCell, Array.getElem?_modify, h]

/-- Cells of which one is another one. -/
theorem StC.put {C : Array Value} (h : StC C ph lg sm a b c d sl pt us al) {o : Nat} {v : Value} {ph' : Int} {lg' : Value} {a' b' c' d' : Int} {sl' : Bool} {pt' us' : Value} {al' : Int}
    (h0 : if o = 0 then v = .int .i64 ph' else ph' = ph) (h1 : if o = 1 then v = lg' else lg' = lg) (hs : o < 2 ∨ 226 ≤ o)
    (h2 : if o = 226 then v = .int .i64 a' else a' = a) (h3 : if o = 227 then v = .int .i64 b' else b' = b) (h4 : if o = 228 then v = .int .i64 c' else c' = c) (h5 : if o = 229 then v = .int .i64 d' else d' = d)
    (h6 : if o = 230 then v = .bool sl' else sl' = sl) (h7 : if o = 231 then v = pt' else pt' = pt) (h8 : if o = 232 then v = us' else us' = us) (h9 : if o = 233 then v = .int .i64 al' else al' = al) :
    StC (C.setIfInBounds o v) ph' lg' sm a' b' c' d' sl' pt' us' al' := by
  have key : ∀ k u u', C[k]? = some u → k < 234 → (if o = k then v = u' else u' = u) → (C.setIfInBounds o v)[k]? = some u' := by
    intro k u u' hk hlt hu
    by_cases e : o = k
    · subst e
      rw [if_pos rfl] at hu
      subst hu
      rw [Array.getElem?_setIfInBounds_self]
      simp [h.size, hlt]
    · rw [if_neg e] at hu
      subst hu
      rw [Array.getElem?_setIfInBounds_ne (by omega)]
      exact hk
  have wrp : ∀ {α : Type} (f : α → Value) (k : Nat) (x y : α), (if o = k then v = f x else x = y) → (if o = k then v = f x else f x = f y) := by
    intro α f k x y h
    by_cases e : o = k
    · rw [if_pos e] at h ⊢; exact h
    · rw [if_neg e] at h ⊢; rw [h]
  refine ⟨by simp [h.size], h.len, key 0 _ _ h.e0 (by omega) (wrp _ _ _ _ h0), key 1 _ _ h.e1 (by omega) h1, ?_, key 226 _ _ h.e226 (by omega) (wrp _ _ _ _ h2), key 227 _ _ h.e227 (by omega) (wrp _ _ _ _ h3), key 228 _ _ h.e228 (by omega) (wrp _ _ _ _ h4), key 229 _ _ h.e229 (by omega) (wrp _ _ _ _ h5), key 230 _ _ h.e230 (by omega) (wrp _ _ _ _ h6), key 231 _ _ h.e231 (by omega) h7, key 232 _ _ h.e232 (by omega) h8, key 233 _ _ h.e233 (by omega) (wrp _ _ _ _ h9)⟩
  intro i hi
  have hl := h.len
  rw [Array.getElem?_setIfInBounds_ne (by omega)]
  exact h.es i hi

theorem StB.set0 (h : StB w r t ph lg sm a b c d sl pt us al) (x : Int) : StB (w.setCell ⟨r, 0, none⟩ (.int .i64 x)) r t x lg sm a b c d sl pt us al := by
  obtain ⟨C, hC, h⟩ := h; exact ⟨_, heap_setCell hC _ _, h.put (by simp) (by simp) (by omega) (by simp) (by simp) (by simp) (by simp) (by simp) (by simp) (by simp) (by simp)⟩
theorem StB.set1 (h : StB w r t ph lg sm a b c d sl pt us al) (x : Value) : StB (w.setCell ⟨r, 1, none⟩ x) r t ph x sm a b c d sl pt us al := by
  obtain ⟨C, hC, h⟩ := h; exact ⟨_, heap_setCell hC _ _, h.put (by simp) (by simp) (by omega) (by simp) (by simp) (by simp) (by simp) (by simp) (by simp) (by simp) (by simp)⟩
theorem StB.set226 (h : StB w r t ph lg sm a b c d sl pt us al) (x : Int) : StB (w.setCell ⟨r, 226, none⟩ (.int .i64 x)) r t ph lg sm x b c d sl pt us al := by
  obtain ⟨C, hC, h⟩ := h; exact ⟨_, heap_setCell hC _ _, h.put (by simp) (by simp) (by omega) (by simp) (by simp) (by simp) (by simp) (by simp) (by simp) (by simp) (by simp)⟩
theorem StB.set227 (h : StB w r t ph lg sm a b c d sl pt us al) (x : Int) : StB (w.setCell ⟨r, 227, none⟩ (.int .i64 x)) r t ph lg sm a x c d sl pt us al := by
  obtain ⟨C, hC, h⟩ := h; exact ⟨_, heap_setCell hC _ _, h.put (by simp) (by simp) (by omega) (by simp) (by simp) (by simp) (by simp) (by simp) (by simp) (by simp) (by simp)⟩
theorem StB.set228 (h : StB w r t ph lg sm a b c d sl pt us al) (x : Int) : StB (w.setCell ⟨r, 228, none⟩ (.int .i64 x)) r t ph lg sm a b x d sl pt us al := by
  obtain ⟨C, hC, h⟩ := h; exact ⟨_, heap_setCell hC _ _, h.put (by simp) (by simp) (by omega) (by simp) (by simp) (by simp) (by simp) (by simp) (by simp) (by simp) (by simp)⟩
theorem StB.set229 (h : StB w r t ph lg sm a b c d sl pt us al) (x : Int) : StB (w.setCell ⟨r, 229, none⟩ (.int .i64 x)) r t ph lg sm a b c x sl pt us al := by
  obtain ⟨C, hC, h⟩ := h; exact ⟨_, heap_setCell hC _ _, h.put (by simp) (by simp) (by omega) (by simp) (by simp) (by simp) (by simp) (by simp) (by simp) (by simp) (by simp)⟩
theorem StB.set230 (h : StB w r t ph lg sm a b c d sl pt us al) (x : Bool) : StB (w.setCell ⟨r, 230, none⟩ (.bool x)) r t ph lg sm a b c d x pt us al := by
  obtain ⟨C, hC, h⟩ := h; exact ⟨_, heap_setCell hC _ _, h.put (by simp) (by simp) (by omega) (by simp) (by simp) (by simp) (by simp) (by simp) (by simp) (by simp) (by simp)⟩
theorem StB.set231 (h : StB w r t ph lg sm a b c d sl pt us al) (x : Value) : StB (w.setCell ⟨r, 231, none⟩ x) r t ph lg sm a b c d sl x us al := by
  obtain ⟨C, hC, h⟩ := h; exact ⟨_, heap_setCell hC _ _, h.put (by simp) (by simp) (by omega) (by simp) (by simp) (by simp) (by simp) (by simp) (by simp) (by simp) (by simp)⟩
theorem StB.set232 (h : StB w r t ph lg sm a b c d sl pt us al) (x : Value) : StB (w.setCell ⟨r, 232, none⟩ x) r t ph lg sm a b c d sl pt x al := by
  obtain ⟨C, hC, h⟩ := h; exact ⟨_, heap_setCell hC _ _, h.put (by simp) (by simp) (by omega) (by simp) (by simp) (by simp) (by simp) (by simp) (by simp) (by simp) (by simp)⟩
theorem StB.set233 (h : StB w r t ph lg sm a b c d sl pt us al) (x : Int) : StB (w.setCell ⟨r, 233, none⟩ (.int .i64 x)) r t ph lg sm a b c d sl pt us x := by
  obtain ⟨C, hC, h⟩ := h; exact ⟨_, heap_setCell hC _ _, h.put (by simp) (by simp) (by omega) (by simp) (by simp) (by simp) (by simp) (by simp) (by simp) (by simp) (by simp)⟩

/-- The whole of it, by value. -/
theorem StB.whole (h : StB w r t ph lg sm a b c d sl pt us al) : ∃ C, w.rangeAt r 0 C.toList ∧ C.toList.length = 234 ∧ StC C ph lg sm a b c d sl pt us al := by
  obtain ⟨C, hC, h⟩ := h
  refine ⟨C, fun j v hv => ?_, by simpa using h.size, h⟩
  rw [StB.cellC hC, Nat.zero_add]
  simpa using hv
/-- The i-th of its sums. -/
theorem StB.sum (h : StB w r t ph lg sm a b c d sl pt us al) (i : Nat) (hi : i < 7) : Rd w (· = r) (some ⟨r, 2 + 32 * i, none⟩) ((sm.drop (32 * i)).take 32) := by
  obtain ⟨C, hC, h⟩ := h
  refine Rd.of_at rfl fun j hj => ?_
  have hl := h.len
  rw [List.length_take, List.length_drop] at hj
  rw [StB.cellC hC, show 2 + 32 * i + j = 2 + (32 * i + j) by omega, h.es (32 * i + j) (by omega)]
  simp
/-- One of its sums is another one. -/
theorem StB.copy (h : StB w r t ph lg sm a b c d sl pt us al) (i : Nat) (hi : i < 7) (l : List UInt8) (hl : l.length ≤ 32) :
    StB (w.setCells r (2 + 32 * i) (l.map B8)) r t ph lg (sm.take (32 * i) ++ l ++ sm.drop (32 * i + l.length)) a b c d sl pt us al := by
  have key : ∀ (l : List UInt8) (k : Nat) (w : World) (sm : List UInt8), k + l.length ≤ 224 → StB w r t ph lg sm a b c d sl pt us al → StB (w.setCells r (2 + k) (l.map B8)) r t ph lg (sm.take k ++ l ++ sm.drop (k + l.length)) a b c d sl pt us al := by
    intro l
    induction l with
    | nil => intro k w sm _ h; simpa [World.setCells] using h
    | cons x l ih =>
      intro k w sm hk h
      simp only [List.map_cons, World.setCells, List.length_cons] at hk ⊢
      obtain ⟨C, hC, h⟩ := h
      have hlen := h.len
      have h1 : StB (w.setCell ⟨r, 2 + k, none⟩ (B8 x)) r t ph lg (sm.set k x) a b c d sl pt us al := by
        refine ⟨_, heap_setCell hC _ _, by simp [h.size], by simpa using h.len, ?_, ?_, ?_, ?_, ?_, ?_, ?_, ?_, ?_, ?_, ?_⟩
        case refine_3 =>
          intro i hi
          rw [List.length_set] at hi
          by_cases e : i = k
          · subst e
            rw [Array.getElem?_setIfInBounds_self]
            simp [h.size]
            omega
          · rw [Array.getElem?_setIfInBounds_ne (by omega), h.es i hi]
            rw [List.getElem_set_ne (by omega)]
        all_goals rw [Array.getElem?_setIfInBounds_ne (by omega)]
        · exact h.e0
        · exact h.e1
        · exact h.e226
        · exact h.e227
        · exact h.e228
        · exact h.e229
        · exact h.e230
        · exact h.e231
        · exact h.e232
        · exact h.e233
      have h2 := ih (k + 1) _ _ (by omega) h1
      rw [show 2 + (k + 1) = 2 + k + 1 by omega] at h2
      have e : (sm.set k x).take (k + 1) ++ l ++ (sm.set k x).drop (k + 1 + l.length) = sm.take k ++ x :: l ++ sm.drop (k + (l.length + 1)) := by
        have hk' : k < sm.length := by omega
        rw [List.set_eq_take_append_cons_drop, if_pos hk']
        have ht : (sm.take k).length = k := by rw [List.length_take]; omega
        rw [show k + 1 = (sm.take k).length + 1 by rw [ht], List.take_length_add_append]
        rw [show (sm.take k).length + 1 + l.length = (sm.take k).length + (1 + l.length) by omega, List.drop_length_add_append]
        simp only [List.take_succ_cons, List.take_zero, List.append_assoc, List.nil_append, List.cons_append, show 1 + l.length = l.length + 1 by omega, List.drop_succ_cons, List.drop_drop, ht]
        rw [show k + 1 + l.length = k + (l.length + 1) by omega]
      rw [e] at h2
      exact h2
  exact key l (32 * i) w sm (by omega) h
end
end Go.Proofs.YtolgaapiedbkfaaGreat
/-
  What is put is read again. No condition but those that each theorem states.
-/
namespace Go.Proofs.YtolgaapiedbkfaaGreat
open Go.RowKit Go.Kx

theorem foldl_ben (n k acc : Nat) : (be n k).foldl (fun n b => n * 256 + b.toNat) acc = acc * 256 ^ k + n % 256 ^ k := by
  induction k generalizing acc with
  | zero => simp [be, Nat.mod_one]
  | succ k ih =>
    simp only [be, List.foldl_cons]
    have h2 : n % 256 ^ (k + 1) = n % 256 ^ k + 256 ^ k * (n / 256 ^ k % 256) := by rw [Nat.pow_succ, Nat.mod_mul]
    rw [ih, UInt8.toNat_ofNat', h2, Nat.pow_succ 256 k]
    have h1 : (acc * 256 + n / 256 ^ k % 2 ^ 8) * 256 ^ k = acc * (256 ^ k * 256) + 256 ^ k * (n / 256 ^ k % 256) := by
      rw [Nat.add_mul, Nat.mul_assoc, Nat.mul_comm 256 (256 ^ k), Nat.mul_comm (n / 256 ^ k % 2 ^ 8)]
    rw [h1]
    omega
theorem beN_be {n k : Nat} (h : n < 256 ^ k) : beN (be n k) = n := by
  unfold beN
  rw [foldl_ben, Nat.mod_eq_of_lt h]
  omega
theorem S_app (a b : List UInt8) (n : Int) (h : (a.length : Int) = n) : badS (a ++ b) 0 n = 0 ∧ outS (a ++ b) 0 n = a ∧ leftS (a ++ b) 0 n = b := by
  subst h
  have hb : badS (a ++ b) 0 (a.length : Int) = 0 := by unfold badS; rw [if_neg (by omega), if_neg (by rw [List.length_append]; omega)]
  refine ⟨hb, ?_, ?_⟩
  · unfold outS; rw [if_pos hb]; simp
  · unfold leftS; rw [if_pos hb]; simp
theorem wb_ok {W : Nat} (h : 1 ≤ W ∧ W ≤ 4) (bad : Int) : wb bad (W : Int) = bad := by unfold wb; rw [if_pos (by omega)]
theorem vec_read {v t : List UInt8} {W : Nat} {least most : Int} (hW : 1 ≤ W ∧ W ≤ 4) (h : v.length < 256 ^ W) (h1 : least ≤ (v.length : Int)) (h2 : (v.length : Int) ≤ most) : vecS (be v.length W ++ (v ++ t)) 0 (W : Int) least most = (v, t, 0) := by
  obtain ⟨a1, a2, a3⟩ := S_app (be v.length W) (v ++ t) (W : Int) (by rw [be_length])
  obtain ⟨b1, b2, b3⟩ := S_app v t (v.length : Int) rfl
  unfold vecS
  simp only [wb_ok hW, a1, a2, a3, beN_be h, b1, b2, b3]
  rw [if_neg (by omega)]
end Go.Proofs.YtolgaapiedbkfaaGreat
/-
  The bytes of a State, and what is read out of bytes: plain lists. Conditions: those of each theorem.
-/
namespace Go.Proofs.YtolgaapiedbkfaaGreat
open Go.RowKit Go.Kx
set_option linter.unusedVariables false

/-! ### The steps of a Reader, on what it has yet and its error -/
abbrev RS := List UInt8 × Int
def uN (x : RS) (W : Int) : Nat := beN (outS x.1 (wb x.2 W) W)
def uS (x : RS) (W : Int) : RS := (leftS x.1 (wb x.2 W) W, badS x.1 (wb x.2 W) W)
def bN (x : RS) (n : Int) : List UInt8 := outS x.1 x.2 n
def bS (x : RS) (n : Int) : RS := (leftS x.1 x.2 n, badS x.1 x.2 n)
def vN (x : RS) (W l m : Int) : List UInt8 := (vecS x.1 x.2 W l m).1
def vS (x : RS) (W l m : Int) : RS := ((vecS x.1 x.2 W l m).2.1, (vecS x.1 x.2 W l m).2.2)
def fS (x : RS) : RS := (x.1, rm x.2 3)

theorem rm_bad {b e : Int} (h : b ≠ 0) : rm b e = b := by unfold rm; rw [if_neg h]
theorem badS_bad {s : List UInt8} {b n : Int} (h : b ≠ 0) : badS s b n = b := by unfold badS; rw [rm_bad h, rm_bad h]; split <;> (try split) <;> rfl
theorem wb_bad {b W : Int} (h : b ≠ 0) : wb b W = b := by unfold wb; rw [rm_bad h]; split <;> rfl
/-- Once something was wrong it stays so. -/
theorem uS_bad {x : RS} (h : x.2 ≠ 0) (W : Int) : (uS x W).2 = x.2 := by unfold uS; rw [wb_bad h]; exact badS_bad h
theorem bS_bad {x : RS} (h : x.2 ≠ 0) (n : Int) : (bS x n).2 = x.2 := badS_bad h
theorem fS_bad {x : RS} (h : x.2 ≠ 0) : (fS x).2 = x.2 := rm_bad h
theorem vS_bad {x : RS} (h : x.2 ≠ 0) (W l m : Int) : (vS x W l m).2 = x.2 := by
  have h1 : badS x.1 x.2 W = x.2 := badS_bad h
  unfold vS vecS
  simp only [wb_bad h, h1]
  rw [if_neg (fun hh => by rw [badS_bad h] at hh; exact h hh.1)]
  dsimp only
  exact badS_bad h

/-- What is there is read. -/
theorem u_full {n W : Nat} (hW : 1 ≤ W ∧ W ≤ 4) (hn : n < 256 ^ W) (t : List UInt8) : uN (be n W ++ t, 0) (W : Int) = n ∧ uS (be n W ++ t, 0) (W : Int) = (t, 0) := by
  obtain ⟨a1, a2, a3⟩ := S_app (be n W) t (W : Int) (by rw [be_length])
  unfold uN uS
  simp only [wb_ok hW, a1, a2, a3, beN_be hn, and_self]
theorem b_full (l t : List UInt8) (n : Int) (h : (l.length : Int) = n) : bN (l ++ t, 0) n = l ∧ bS (l ++ t, 0) n = (t, 0) := by
  obtain ⟨a1, a2, a3⟩ := S_app l t n h
  unfold bN bS
  simp only [a1, a2, a3, and_self]
theorem v_full {v : List UInt8} {W : Nat} {l m : Int} (hW : 1 ≤ W ∧ W ≤ 4) (h : v.length < 256 ^ W) (h1 : l ≤ (v.length : Int)) (h2 : (v.length : Int) ≤ m) (t : List UInt8) : vN (be v.length W ++ (v ++ t), 0) (W : Int) l m = v ∧ vS (be v.length W ++ (v ++ t), 0) (W : Int) l m = (t, 0) := by
  unfold vN vS
  rw [vec_read hW h h1 h2]
  simp

/-- Of s, of which the end t is not there: what is there, or that it ended too early. -/
def Ct (t s : List UInt8) (x : RS) : Prop := x.2 = 2 ∨ x.2 = 0 ∧ x.1 ++ t = s
theorem Ct.take {t u s : List UInt8} {x : RS} (h : Ct t (u ++ s) x) (n : Int) (hn : (u.length : Int) = n) : Ct t s (bS x n) ∧ ((bS x n).2 = 0 → bN x n = u ∧ x.2 = 0) := by
  subst hn
  rcases h with h | ⟨h0, h1⟩
  · have := bS_bad (x := x) (by omega) (u.length : Int)
    exact ⟨.inl (by rw [this, h]), fun h' => by omega⟩
  · obtain ⟨l, b⟩ := x
    simp only at h0 h1
    subst h0
    by_cases hl : l.length < u.length
    · have hb : badS l 0 (u.length : Int) = 2 := by unfold badS rm; rw [if_neg (by omega), if_pos (by omega), if_pos rfl]
      exact ⟨.inl hb, fun h' => by have h2 : badS l 0 (u.length : Int) = 0 := h'; omega⟩
    · obtain ⟨v, rfl⟩ : ∃ v, l = u ++ v := by
        refine ⟨l.drop u.length, ?_⟩
        have h2 := congrArg (List.take u.length) h1
        rw [List.take_append_of_le_length (by omega), List.take_left'  rfl] at h2
        rw [← h2]
        simp only [List.length_take]
        rw [Nat.min_eq_left (by omega)]
        exact (List.take_append_drop _ _).symm
      obtain ⟨b1, b2⟩ := b_full u v (u.length : Int) rfl
      rw [List.append_assoc] at h1
      rw [b2]
      exact ⟨.inr ⟨rfl, List.append_cancel_left h1⟩, fun _ => ⟨b1, rfl⟩⟩
theorem Ct.u {t s : List UInt8} {x : RS} {n W : Nat} (hW : 1 ≤ W ∧ W ≤ 4) (hn : n < 256 ^ W) (h : Ct t (be n W ++ s) x) : Ct t s (uS x (W : Int)) ∧ ((uS x (W : Int)).2 = 0 → uN x (W : Int) = n) := by
  have h1 := h.take (W : Int) (by rw [be_length])
  have e1 : uS x (W : Int) = bS x (W : Int) := by unfold uS bS; rw [wb_ok hW]
  have e2 : uN x (W : Int) = beN (bN x (W : Int)) := by unfold uN bN; rw [wb_ok hW]
  rw [e1, e2]
  exact ⟨h1.1, fun h' => by rw [(h1.2 h').1, beN_be hn]⟩
theorem Ct.v {t s v : List UInt8} {x : RS} {W : Nat} {l m : Int} (hW : 1 ≤ W ∧ W ≤ 4) (hv : v.length < 256 ^ W) (hl : l ≤ (v.length : Int)) (hm : (v.length : Int) ≤ m) (h : Ct t (be v.length W ++ (v ++ s)) x) : Ct t s (vS x (W : Int) l m) ∧ ((vS x (W : Int) l m).2 = 0 → vN x (W : Int) l m = v) := by
  have h1 := h.u hW hv
  by_cases h0 : (uS x (W : Int)).2 = 0
  · have hn := h1.2 h0
    have h2 := h1.1.take (v.length : Int) rfl
    have e : vecS x.1 x.2 (W : Int) l m = (bN (uS x (W : Int)) (v.length : Int), bS (uS x (W : Int)) (v.length : Int)) := by
      unfold vecS
      have e1 : (beN (outS x.1 (wb x.2 (W : Int)) (W : Int)) : Nat) = v.length := hn
      simp only [e1]
      rw [if_neg (by omega)]
      rfl
    unfold vS vN
    rw [e]
    exact ⟨h2.1, fun h' => (h2.2 h').1⟩
  · have h2 : (uS x (W : Int)).2 = 2 := by
      rcases h1.1 with h2 | h2
      · exact h2
      · exact absurd h2.1 h0
    have e : (vS x (W : Int) l m).2 = 2 := by
      have hb : badS x.1 (wb x.2 (W : Int)) (W : Int) = 2 := h2
      unfold vS vecS
      simp only [hb]
      rw [if_neg (fun hh => by rw [badS_bad (by omega)] at hh; omega)]
      dsimp only
      exact badS_bad (by omega)
    exact ⟨.inl e, fun h' => by omega⟩
theorem Ct.end {t : List UInt8} {x : RS} (h : Ct t [] x) (ht : t ≠ []) : x.2 = 2 := by
  rcases h with h | h
  · exact h
  · have := (List.append_eq_nil_iff.1 h.2).2
    exact absurd this ht

/-! ### A State's bytes -/
def bdB (s : St) : List UInt8 := be s.ph.toNat 1 ++ (be s.lg.length 2 ++ (s.lg ++ (s.sm ++ (be s.a.toNat 1 ++ (be s.b.toNat 1 ++ (be s.c.toNat 2 ++ (be s.d.toNat 2 ++ (be (if s.sl then 1 else 0) 1 ++ (be s.pt.length 2 ++ s.pt)))))))))
def usB (s : St) : List UInt8 := be s.us.length 1 ++ s.us
def alB (s : St) : List UInt8 := be (s.al + 1).toNat 2
def snB (s : St) (v : Nat) : List UInt8 := be v 1 ++ (bdB s ++ ((if 2 ≤ v then usB s else []) ++ (if 3 ≤ v then alB s else [])))

/-- What is read behind the version: the fields, and where the Reader stands. -/
def smS : Nat → RS → List UInt8 × RS
  | 0, x => ([], x)
  | k + 1, x => let o := bN (smS k x).2 32; ((smS k x).1 ++ (o ++ List.replicate (32 - o.length) 0), bS (smS k x).2 32)

/-- The whole: the State, the version, the error. -/
structure Go1 (L : List UInt8) (ver : Nat) (s : St) (sealed : Nat) (y : RS) : Prop where
  ex : ∃ (x1 x2 x3 x4 x5 x6 x7 x8 x9 x10 x11 x12 : RS),
    (ver = uN (L, 0) 1 ∧ x1 = uS (L, 0) 1) ∧ x2 = (if 1 ≤ ver ∧ ver ≤ 3 then x1 else fS x1) ∧ (s.ph = (uN x2 1 : Nat) ∧ x3 = uS x2 1) ∧ (s.lg = vN x3 2 0 20000 ∧ x4 = vS x3 2 0 20000) ∧
    (s.sm = (smS 7 x4).1 ∧ x5 = (smS 7 x4).2) ∧ (s.a = (uN x5 1 : Nat) ∧ x6 = uS x5 1) ∧ (s.b = (uN x6 1 : Nat) ∧ x7 = uS x6 1) ∧ (s.c = (uN x7 2 : Nat) ∧ x8 = uS x7 2) ∧ (s.d = (uN x8 2 : Nat) ∧ x9 = uS x8 2) ∧
    (sealed = uN x9 1 ∧ x10 = uS x9 1) ∧ s.sl = decide (sealed = 1) ∧ (s.pt = vN x10 2 0 4096 ∧ x11 = vS x10 2 0 4096) ∧
    (s.us = (if 2 ≤ ver then vN x11 1 0 255 else []) ∧ x12 = (if 2 ≤ ver then vS x11 1 0 255 else x11)) ∧
    (s.al = (if 3 ≤ ver then ((uN x12 2 : Nat) : Int) - 1 else -1) ∧ y = (if 3 ≤ ver then uS x12 2 else x12))
end Go.Proofs.YtolgaapiedbkfaaGreat
/-
  What is read out of a State's bytes, whole, cut, or behind another version: plain lists. Conditions: those of each theorem.
-/
namespace Go.Proofs.YtolgaapiedbkfaaGreat
open Go.RowKit Go.Kx
set_option linter.unusedVariables false
set_option linter.unusedSimpArgs false

theorem sm_full (t : List UInt8) (sm : List UInt8) : ∀ k, 32 * k ≤ sm.length → smS k (sm ++ t, 0) = (sm.take (32 * k), (sm.drop (32 * k) ++ t, 0))
  | 0, _ => by simp [smS]
  | k + 1, h => by
    have ih := sm_full t sm k (by omega)
    have e : sm.drop (32 * k) ++ t = (sm.drop (32 * k)).take 32 ++ (sm.drop (32 * (k + 1)) ++ t) := by
      rw [← List.append_assoc]
      congr 1
      rw [show 32 * (k + 1) = 32 * k + 32 by omega, ← List.drop_drop, List.take_append_drop]
    have hl : ((sm.drop (32 * k)).take 32).length = 32 := by rw [List.length_take, List.length_drop]; omega
    obtain ⟨b1, b2⟩ := b_full ((sm.drop (32 * k)).take 32) (sm.drop (32 * (k + 1)) ++ t) 32 (by rw [hl]; rfl)
    simp only [smS, ih, e, b1, b2, hl, Nat.sub_self, List.replicate_zero, List.append_nil]
    congr 1
    rw [show 32 * (k + 1) = 32 * k + 32 by omega, List.take_add]
theorem sm_bad {x : RS} (h : x.2 ≠ 0) : ∀ k, (smS k x).2.2 = x.2
  | 0 => rfl
  | k + 1 => by have ih := sm_bad h k; simp only [smS]; rw [bS_bad (by rw [ih]; exact h), ih]
theorem Ct.sm {t s : List UInt8} {x : RS} (sm : List UInt8) (h : Ct t (sm ++ s) x) : ∀ k, 32 * k ≤ sm.length → Ct t (sm.drop (32 * k) ++ s) (smS k x).2
  | 0, _ => by simpa [smS] using h
  | k + 1, hk => by
    have ih := Ct.sm sm h k (by omega)
    have e : sm.drop (32 * k) ++ s = (sm.drop (32 * k)).take 32 ++ (sm.drop (32 * (k + 1)) ++ s) := by
      rw [← List.append_assoc]
      congr 1
      rw [show 32 * (k + 1) = 32 * k + 32 by omega, ← List.drop_drop, List.take_append_drop]
    have hl : ((sm.drop (32 * k)).take 32).length = 32 := by rw [List.length_take, List.length_drop]; omega
    rw [e] at ih
    exact (ih.take 32 (by rw [hl]; rfl)).1

/-- What a State must be that it can be put. -/
theorem okS.bd {s : St} (h : okS s) : s.ph.toNat < 256 ^ 1 ∧ s.a.toNat < 256 ^ 1 ∧ s.b.toNat < 256 ^ 1 ∧ s.c.toNat < 256 ^ 2 ∧ s.d.toNat < 256 ^ 2 ∧ s.lg.length < 256 ^ 2 ∧ s.pt.length < 256 ^ 2 ∧ s.us.length < 256 ^ 1 ∧ (s.al + 1).toNat < 256 ^ 2 := by
  obtain ⟨⟨a1, a2⟩, ⟨b1, b2⟩, ⟨c1, c2⟩, ⟨d1, d2⟩, ⟨e1, e2⟩, ⟨f1, f2⟩, g1, g2, g3⟩ := h
  simp only [Nat.reducePow]
  omega

/-- The body is read, whatever stands behind it. -/
theorem bd_full {s s' : St} {v ver sealed : Nat} {T : List UInt8} {y : RS} (hs : okS s) (hm : s.sm.length = 224) (hv : 1 ≤ v ∧ v ≤ 3) (h : Go1 (be v 1 ++ (bdB s ++ T)) ver s' sealed y) :
    ver = v ∧ sealed = (if s.sl then 1 else 0) ∧ ∃ x12 : RS, s' = { s with us := (if 2 ≤ v then vN (T, 0) 1 0 255 else []), al := (if 3 ≤ v then ((uN x12 2 : Nat) : Int) - 1 else -1) } ∧ x12 = (if 2 ≤ v then vS (T, 0) 1 0 255 else (T, 0)) ∧ y = (if 3 ≤ v then uS x12 2 else x12) := by
  obtain ⟨x1, x2, x3, x4, x5, x6, x7, x8, x9, x10, x11, x12, ⟨r1, e1⟩, e2, ⟨r3, e3⟩, ⟨r4, e4⟩, ⟨r5, e5⟩, ⟨r6, e6⟩, ⟨r7, e7⟩, ⟨r8, e8⟩, ⟨r9, e9⟩, ⟨r10, e10⟩, r11, ⟨r12, e12⟩, ⟨r13, e13⟩, r14, e14⟩ := h
  obtain ⟨k1, k2, k3, k4, k5, k6, k7, k8, k9⟩ := hs.bd
  obtain ⟨⟨a1, a2⟩, ⟨b1, b2⟩, ⟨c1, c2⟩, ⟨d1, d2⟩, ⟨f1, f2⟩, ⟨g1, g2⟩, m1, m2, m3⟩ := hs
  have w1 : (1 : Nat) ≤ 1 ∧ 1 ≤ 4 := by omega
  have w2 : (1 : Nat) ≤ 2 ∧ 2 ≤ 4 := by omega
  have q1 := u_full (n := v) w1 (by simp only [Nat.reducePow]; omega) (bdB s ++ T)
  rw [show ((1 : Nat) : Int) = 1 by rfl] at q1
  rw [q1.1] at r1
  rw [q1.2] at e1
  subst r1 e1
  rw [if_pos hv] at e2
  subst e2
  unfold bdB at r3 e3
  simp only [List.append_assoc] at r3 e3
  have q2 := u_full w1 k1 (be s.lg.length 2 ++ (s.lg ++ (s.sm ++ (be s.a.toNat 1 ++ (be s.b.toNat 1 ++ (be s.c.toNat 2 ++ (be s.d.toNat 2 ++ (be (if s.sl then 1 else 0) 1 ++ (be s.pt.length 2 ++ (s.pt ++ T))))))))))
  rw [show ((1 : Nat) : Int) = 1 by rfl] at q2
  rw [q2.1] at r3
  rw [q2.2] at e3
  subst e3
  have q3 := v_full (l := 0) (m := 20000) w2 k6 (by omega) (by omega) (s.sm ++ (be s.a.toNat 1 ++ (be s.b.toNat 1 ++ (be s.c.toNat 2 ++ (be s.d.toNat 2 ++ (be (if s.sl then 1 else 0) 1 ++ (be s.pt.length 2 ++ (s.pt ++ T))))))))
  rw [show ((2 : Nat) : Int) = 2 by rfl] at q3
  rw [q3.1] at r4
  rw [q3.2] at e4
  subst e4
  rw [sm_full _ s.sm 7 (by omega)] at r5 e5
  rw [List.take_of_length_le (by omega)] at r5
  rw [List.drop_of_length_le (by omega), List.nil_append] at e5
  subst e5
  have q4 := u_full w1 k2 (be s.b.toNat 1 ++ (be s.c.toNat 2 ++ (be s.d.toNat 2 ++ (be (if s.sl then 1 else 0) 1 ++ (be s.pt.length 2 ++ (s.pt ++ T))))))
  rw [show ((1 : Nat) : Int) = 1 by rfl] at q4
  rw [q4.1] at r6
  rw [q4.2] at e6
  subst e6
  have q5 := u_full w1 k3 (be s.c.toNat 2 ++ (be s.d.toNat 2 ++ (be (if s.sl then 1 else 0) 1 ++ (be s.pt.length 2 ++ (s.pt ++ T)))))
  rw [show ((1 : Nat) : Int) = 1 by rfl] at q5
  rw [q5.1] at r7
  rw [q5.2] at e7
  subst e7
  have q6 := u_full w2 k4 (be s.d.toNat 2 ++ (be (if s.sl then 1 else 0) 1 ++ (be s.pt.length 2 ++ (s.pt ++ T))))
  rw [show ((2 : Nat) : Int) = 2 by rfl] at q6
  rw [q6.1] at r8
  rw [q6.2] at e8
  subst e8
  have q7 := u_full w2 k5 (be (if s.sl then 1 else 0) 1 ++ (be s.pt.length 2 ++ (s.pt ++ T)))
  rw [show ((2 : Nat) : Int) = 2 by rfl] at q7
  rw [q7.1] at r9
  rw [q7.2] at e9
  subst e9
  have q8 := u_full (n := if s.sl then 1 else 0) w1 (by split <;> simp) (be s.pt.length 2 ++ (s.pt ++ T))
  rw [show ((1 : Nat) : Int) = 1 by rfl] at q8
  rw [q8.1] at r10
  rw [q8.2] at e10
  subst e10 r10
  have q9 := v_full (l := 0) (m := 4096) w2 k7 (by omega) (by omega) T
  rw [show ((2 : Nat) : Int) = 2 by rfl] at q9
  rw [q9.1] at r12
  rw [q9.2] at e12
  subst e12
  refine ⟨rfl, rfl, x12, ?_, e13, e14⟩
  obtain ⟨ph, lg, sm, a, b, c, d, sl, pt, us, al⟩ := s
  obtain ⟨ph', lg', sm', a', b', c', d', sl', pt', us', al'⟩ := s'
  simp only at *
  simp only [St.mk.injEq]
  refine ⟨by omega, r4, r5, by omega, by omega, by omega, by omega, ?_, r12, r13, r14⟩
  rw [r11]
  cases sl <;> simp

/-- What an older version has not is as at the start. -/
def upS (s : St) (v : Nat) : St := { s with us := (if 2 ≤ v then s.us else []), al := (if 3 ≤ v then s.al else -1) }
theorem upS_ok {s : St} (h : okS s) (v : Nat) : okS (upS s v) := by
  obtain ⟨a, b, c, d, e, f, g, h, i⟩ := h
  refine ⟨a, b, c, d, e, ?_, g, h, ?_⟩
  · show -1 ≤ (if 3 ≤ v then s.al else -1) ∧ (if 3 ≤ v then s.al else -1) ≤ 255
    split <;> omega
  · show (if 2 ≤ v then s.us else []).length ≤ 255
    split
    · exact i
    · simp

theorem get_full {s s' : St} {v ver sealed : Nat} {y : RS} (hs : okS s) (hm : s.sm.length = 224) (hv : 1 ≤ v ∧ v ≤ 3) (h : Go1 (snB s v) ver s' sealed y) :
    ver = v ∧ sealed ≤ 1 ∧ s' = upS s v ∧ y = ([], 0) := by
  obtain ⟨h1, h2, x12, h3, h4, h5⟩ := bd_full hs hm hv h
  obtain ⟨k1, k2, k3, k4, k5, k6, k7, k8, k9⟩ := hs.bd
  obtain ⟨-, -, -, -, -, ⟨g1, g2⟩, -, -, m3⟩ := hs
  have w1 : (1 : Nat) ≤ 1 ∧ 1 ≤ 4 := by omega
  have w2 : (1 : Nat) ≤ 2 ∧ 2 ≤ 4 := by omega
  have q := v_full (l := 0) (m := 255) w1 k8 (by omega) (by omega) (if 3 ≤ v then alB s else [])
  rw [show ((1 : Nat) : Int) = 1 by rfl] at q
  have qa := u_full w2 k9 []
  rw [show ((2 : Nat) : Int) = 2 by rfl, List.append_nil] at qa
  refine ⟨h1, by rw [h2]; split <;> omega, ?_⟩
  have hc : v = 1 ∨ v = 2 ∨ v = 3 := by omega
  rcases hc with rfl | rfl | rfl
  · simp only [Nat.reduceLeDiff, if_false, if_true, List.append_nil] at *
    subst h4 h5 h3
    exact ⟨by simp [upS], rfl⟩
  · simp only [Nat.reduceLeDiff, if_false, if_true, Nat.le_refl] at *
    unfold usB at h3 h4
    rw [List.append_assoc, q.1] at h3
    rw [List.append_assoc, q.2] at h4
    subst h4 h5 h3
    exact ⟨by simp [upS], rfl⟩
  · simp only [Nat.reduceLeDiff, if_false, if_true, Nat.le_refl] at *
    unfold usB at h3 h4
    rw [List.append_assoc, q.1] at h3
    rw [List.append_assoc, q.2] at h4
    subst h4
    unfold alB at h3 h5
    rw [qa.1] at h3
    rw [qa.2] at h5
    subst h5 h3
    refine ⟨?_, rfl⟩
    simp only [upS, Nat.reduceLeDiff, if_true, Nat.le_refl, St.mk.injEq, true_and, and_true]
    omega

/-- The first version's number ahead of the third one's bytes: some are left over. -/
theorem get_left {s s' : St} {ver sealed : Nat} {y : RS} (hs : okS s) (hm : s.sm.length = 224) (h : Go1 (be 1 1 ++ (bdB s ++ (usB s ++ alB s))) ver s' sealed y) : doneS y.1 y.2 = 3 := by
  obtain ⟨h1, h2, x12, h3, h4, h5⟩ := bd_full (v := 1) hs hm (by omega) h
  simp only [Nat.reduceLeDiff, if_false] at h4 h5
  subst h4 h5
  unfold doneS usB be
  simp [be]
/-- The third version's number ahead of the first one's bytes: they end too early. -/
theorem get_short {s s' : St} {ver sealed : Nat} {y : RS} (hs : okS s) (hm : s.sm.length = 224) (h : Go1 (be 3 1 ++ bdB s) ver s' sealed y) : doneS y.1 y.2 = 2 := by
  rw [← List.append_nil (bdB s)] at h
  obtain ⟨h1, h2, x12, h3, h4, h5⟩ := bd_full (v := 3) hs hm (by omega) h
  simp only [Nat.reduceLeDiff, if_true, Nat.le_refl] at h4 h5
  have e : vS ([], 0) 1 0 255 = ([], 2) := by decide
  rw [e] at h4
  subst h4
  have h6 := uS_bad (x := ([], 2)) (by decide) 2
  rw [← h5] at h6
  unfold doneS
  rw [h6, if_neg (by decide)]
/-- From an error on nothing mends it. -/
theorem go1_bad {L : List UInt8} {ver sealed : Nat} {s' : St} {y : RS} (e : Int) (he : e ≠ 0) (hx : (if 1 ≤ uN (L, 0) 1 ∧ uN (L, 0) 1 ≤ 3 then uS (L, 0) 1 else fS (uS (L, 0) 1)).2 = e) (h : Go1 L ver s' sealed y) : y.2 = e := by
  obtain ⟨x1, x2, x3, x4, x5, x6, x7, x8, x9, x10, x11, x12, ⟨r1, e1⟩, e2, ⟨r3, e3⟩, ⟨r4, e4⟩, ⟨r5, e5⟩, ⟨r6, e6⟩, ⟨r7, e7⟩, ⟨r8, e8⟩, ⟨r9, e9⟩, ⟨r10, e10⟩, r11, ⟨r12, e12⟩, ⟨r13, e13⟩, r14, e14⟩ := h
  have b2 : x2.2 = e := by rw [e2, e1, r1]; exact hx
  have b3 : x3.2 = e := by rw [e3, uS_bad (by rw [b2]; exact he), b2]
  have b4 : x4.2 = e := by rw [e4, vS_bad (by rw [b3]; exact he), b3]
  have b5 : x5.2 = e := by rw [e5, sm_bad (by rw [b4]; exact he), b4]
  have b6 : x6.2 = e := by rw [e6, uS_bad (by rw [b5]; exact he), b5]
  have b7 : x7.2 = e := by rw [e7, uS_bad (by rw [b6]; exact he), b6]
  have b8 : x8.2 = e := by rw [e8, uS_bad (by rw [b7]; exact he), b7]
  have b9 : x9.2 = e := by rw [e9, uS_bad (by rw [b8]; exact he), b8]
  have b10 : x10.2 = e := by rw [e10, uS_bad (by rw [b9]; exact he), b9]
  have b11 : x11.2 = e := by rw [e12, vS_bad (by rw [b10]; exact he), b10]
  have b12 : x12.2 = e := by
    rw [e13]
    split
    · rw [vS_bad (by rw [b11]; exact he), b11]
    · exact b11
  rw [e14]
  split
  · rw [uS_bad (by rw [b12]; exact he), b12]
  · exact b12
/-- A version that is none. -/
theorem get_four {L : List UInt8} {s' : St} {ver sealed : Nat} {y : RS} (h : Go1 (be 4 1 ++ L) ver s' sealed y) : doneS y.1 y.2 = 3 := by
  have q := u_full (n := 4) (W := 1) (by omega) (by decide) L
  rw [show ((1 : Nat) : Int) = 1 by rfl] at q
  have h6 : y.2 = 3 := by
    refine go1_bad 3 (by decide) ?_ h
    rw [q.1, q.2]
    rfl
  unfold doneS
  rw [h6, if_neg (by decide)]

/-- Of bytes of which the end is not there nothing is told. -/
theorem get_cut {s s' : St} {v k ver sealed : Nat} {y : RS} (hs : okS s) (hm : s.sm.length = 224) (hv : 1 ≤ v ∧ v ≤ 3) (hk : k < (snB s v).length) (h : Go1 ((snB s v).take k) ver s' sealed y) : doneS y.1 y.2 = 2 := by
  obtain ⟨t, ht⟩ : ∃ t, t = (snB s v).drop k := ⟨_, rfl⟩
  have htn : t ≠ [] := by intro e; have := congrArg List.length ht; rw [e, List.length_drop] at this; simp at this; omega
  have h0 : Ct t (snB s v) ((snB s v).take k, 0) := .inr ⟨rfl, by rw [ht]; exact List.take_append_drop _ _⟩
  clear ht hk
  generalize (snB s v).take k = L at *
  suffices H : y.2 = 2 by unfold doneS; rw [H, if_neg (by decide)]
  obtain ⟨k1, k2, k3, k4, k5, k6, k7, k8, k9⟩ := hs.bd
  obtain ⟨⟨a1, a2⟩, ⟨b1, b2⟩, ⟨c1, c2⟩, ⟨d1, d2⟩, ⟨f1, f2⟩, ⟨g1, g2⟩, m1, m2, m3⟩ := hs
  have w1 : (1 : Nat) ≤ 1 ∧ 1 ≤ 4 := by omega
  have w2 : (1 : Nat) ≤ 2 ∧ 2 ≤ 4 := by omega
  have q1 := h0.u (n := v) w1 (by simp only [Nat.reducePow]; omega)
  rw [show ((1 : Nat) : Int) = 1 by rfl] at q1
  by_cases hb : (uS (L, 0) 1).2 = 0
  · have hver := q1.2 hb
    obtain ⟨x1, x2, x3, x4, x5, x6, x7, x8, x9, x10, x11, x12, ⟨r1, e1⟩, e2, ⟨r3, e3⟩, ⟨r4, e4⟩, ⟨r5, e5⟩, ⟨r6, e6⟩, ⟨r7, e7⟩, ⟨r8, e8⟩, ⟨r9, e9⟩, ⟨r10, e10⟩, r11, ⟨r12, e12⟩, ⟨r13, e13⟩, r14, e14⟩ := h
    rw [hver] at r1
    subst r1
    rw [if_pos hv, e1] at e2
    have p2 := q1.1
    rw [← e2] at p2
    unfold bdB at p2
    simp only [List.append_assoc] at p2
    have p3 := (p2.u w1 k1).1
    rw [show ((1 : Nat) : Int) = 1 by rfl, ← e3] at p3
    have p4 := (p3.v (l := 0) (m := 20000) w2 k6 (by omega) (by omega)).1
    rw [show ((2 : Nat) : Int) = 2 by rfl, ← e4] at p4
    have p5 := p4.sm s.sm 7 (by omega)
    rw [← e5, List.drop_of_length_le (by omega), List.nil_append] at p5
    have p6 := (p5.u w1 k2).1
    rw [show ((1 : Nat) : Int) = 1 by rfl, ← e6] at p6
    have p7 := (p6.u w1 k3).1
    rw [show ((1 : Nat) : Int) = 1 by rfl, ← e7] at p7
    have p8 := (p7.u w2 k4).1
    rw [show ((2 : Nat) : Int) = 2 by rfl, ← e8] at p8
    have p9 := (p8.u w2 k5).1
    rw [show ((2 : Nat) : Int) = 2 by rfl, ← e9] at p9
    have p10 := (p9.u w1 (by split <;> simp)).1
    rw [show ((1 : Nat) : Int) = 1 by rfl, ← e10] at p10
    have p11 := (p10.v (l := 0) (m := 4096) w2 k7 (by omega) (by omega)).1
    rw [show ((2 : Nat) : Int) = 2 by rfl, ← e12] at p11
    have hc : ver = 1 ∨ ver = 2 ∨ ver = 3 := by omega
    rcases hc with rfl | rfl | rfl
    · simp only [Nat.reduceLeDiff, if_false, List.append_nil] at p11 e13 e14
      rw [e14, e13]
      exact p11.end htn
    · simp only [Nat.reduceLeDiff, if_false, if_true, Nat.le_refl, usB, List.append_assoc] at p11 e13 e14
      have p12 := (p11.v (l := 0) (m := 255) w1 k8 (by omega) (by omega)).1
      rw [show ((1 : Nat) : Int) = 1 by rfl, ← e13] at p12
      rw [e14]
      exact p12.end htn
    · simp only [Nat.reduceLeDiff, if_true, Nat.le_refl, usB, alB, List.append_assoc] at p11 e13 e14
      have p12 := (p11.v (l := 0) (m := 255) w1 k8 (by omega) (by omega)).1
      rw [show ((1 : Nat) : Int) = 1 by rfl, ← e13] at p12
      rw [← List.append_nil (be _ 2)] at p12
      have p13 := (p12.u w2 k9).1
      rw [show ((2 : Nat) : Int) = 2 by rfl, ← e14] at p13
      exact p13.end htn
  · have hb2 : (uS (L, 0) 1).2 = 2 := by
      rcases q1.1 with h2 | h2
      · exact h2
      · exact absurd h2.1 hb
    refine go1_bad 2 (by decide) ?_ h
    split
    · exact hb2
    · rw [fS_bad hb, hb2]
end Go.Proofs.YtolgaapiedbkfaaGreat
/-
  A slice of bytes turned into a string; bytes of a row that is marked. No condition but those that each theorem states.
-/
namespace Go.Proofs.YtolgaapiedbkfaaGreat
open Go.RowKit Go.Kx

theorem run_str {w : World} {S : Nat → Prop} {p : Option Addr} {n c : Nat} {l : List UInt8} (h : Rd w S p l) (hn : l.length = n) :
    (convert 38 9 (.slice p n c)).run Tryz.prog w = .ok (.string ⟨l.toArray⟩) w := by
  subst hn
  cases p with
  | none =>
    have := h.none_nil
    subst this
    exact run_convert_bytes_nil w 38 5 Tryz.underlying38 Tryz.underlying5 _ _ 9 Tryz.underlying9
  | some a =>
    cases l with
    | nil =>
      show Sem.run Tryz.prog (convert 38 9 (.slice (some a) 0 c)) w = _
      rw [run_convert_bytes_string w 38 9 5 a 0 c Tryz.underlying38 Tryz.underlying5 Tryz.underlying9, run_bytesToString w a 0 c [] (by simp [loadCells, loadCellsFrom, Sem.run_pure])]
      rfl
    | cons b t =>
      obtain ⟨g, o, he, _, _, hc⟩ := h.at (by simp)
      cases he
      rw [run_convert_bytes_arg w 38 5 Tryz.underlying38 Tryz.underlying5 g o _ c ((b :: t).map fun x => (x.toNat : Int)) (by simp) (fun i hi => by rw [hc i hi, List.getD_eq_getElem?_getD, List.getElem?_map, List.getElem?_eq_getElem hi]; rfl) 9 Tryz.underlying9]
      congr 2
      unfold strOfNums
      congr 2
      rw [List.map_map]
      have : ∀ l : List UInt8, l.map ((fun n => UInt8.ofNat n.toNat) ∘ fun x => ((x.toNat : Nat) : Int)) = l := by
        intro l
        induction l with
        | nil => rfl
        | cons x r ih => rw [List.map_cons, ih]; simp
      exact this _

theorem run_strO {w : World} {g : Nat} {p : Option Addr} {n c : Nat} {l : List UInt8} (h : Own w g (.slice p n c) l) (hn : l.length = n) :
    (convert 38 9 (.slice p n c)).run Tryz.prog w = .ok (.string ⟨l.toArray⟩) w := run_str h.rd hn

theorem Rd.litm (w : World) (l : List UInt8) (m : Nat × Nat) : Rd (w.alloc (.cells (l.map B8).toArray 5 m)) (· = w.heap.size) (some ⟨w.heap.size, 0, none⟩) l := by
  refine Rd.of_at rfl fun i hi => ?_
  have h := heap_alloc_new w (.cells (l.map B8).toArray 5 m)
  unfold World.cell?
  rw [h]
  simp [hi]

theorem Own.keep {w w' : World} {g : Nat} {v : Value} {l : List UInt8} (h : Own w g v l) (hb : Below w.heap.size w w') : Own w' g v l := h.only (Only.of_below (r := fun _ => False) hb) (fun h => h)
end Go.Proofs.YtolgaapiedbkfaaGreat
/-
  The contracts of snap.sums and of the two Puts. Conditions: the State's bytes lie still.
-/
namespace Go.Proofs.YtolgaapiedbkfaaGreat
open Go.RowKit Go.Kx
set_option linter.unusedVariables false
set_option linter.unusedSimpArgs false

/-- Where a State's seven sums lie. -/
def SumsR (r : Nat) (w : World) (e : Ending) (w' : World) : Prop := ∃ g, e = .returned (.slice (some ⟨g, 0, none⟩) 7 7) ∧ w.heap.size ≤ g ∧ g < w'.heap.size ∧ (∀ i, i < 7 → w'.cell? ⟨g, i, none⟩ = some (.pointer (some ⟨r, 2 + 32 * i, none⟩))) ∧ Below w.heap.size w w'

set_option maxHeartbeats 4000000 in
set_option maxRecDepth 100000 in
theorem sums_c (r : Nat) (w : World) : Calls Tryz.prog 60 #[rp r] w (SumsR r w) := by
  go_enter Tryz.func60, Tryz.ntmps60
  go_wp2
  go_region
  go_wp2
  go_ret
  refine ⟨w.heap.size, rfl, Nat.le_refl _, by simp [World.drew], ?_, ((Below.refl _ _).alloc (Nat.le_refl _) _).drew⟩
  intro i hi
  rw [show ∀ (v : World) p, v.drew.cell? p = v.cell? p from fun _ _ => rfl, World.cell?_alloc_at _ _ _ _ rfl]
  have h7 : i = 0 ∨ i = 1 ∨ i = 2 ∨ i = 3 ∨ i = 4 ∨ i = 5 ∨ i = 6 := by omega
  rcases h7 with rfl | rfl | rfl | rfl | rfl | rfl | rfl <;> rfl

/-- What is put yet: bytes of the call's own, n of them; the State's block stands by. -/
structure Bf (w0 : World) (r : Nat) (t : TypeId) (C : Array Value) (wx : World) (g n c : Nat) (l : List UInt8) : Prop where
  blk : wx.heap[r]? = some (.cells C t (0, 0))
  bel : Below w0.heap.size w0 wx
  own : Own wx g (.slice (some ⟨g, 0, none⟩) n c) l
  len : l.length = n
  rge : w0.heap.size ≤ r
  gge : w0.heap.size ≤ g
  glt : g < wx.heap.size
  gne : g ≠ r
  cap : n ≤ c
  cam : c ≤ maxLen
theorem Bf.step {w0 wx w' : World} {r g n c g' n' c' : Nat} {t : TypeId} {C : Array Value} {l l' : List UInt8} (h : Bf w0 r t C wx g n c l) (hb : Below wx.heap.size wx w') (h1 : wx.heap.size ≤ g') (hl : l'.length = n') (h2 : g' < w'.heap.size) (h3 : n' ≤ c') (h4 : c' ≤ maxLen) (ho : Own w' g' (.slice (some ⟨g', 0, none⟩) n' c') l') : Bf w0 r t C w' g' n' c' l' := by
  have hr : r < wx.heap.size := (Array.getElem?_eq_some_iff.1 h.blk).1
  exact ⟨(hb.block r hr).trans h.blk, h.bel.trans (hb.mono h.bel.size), ho, hl, h.rge, Nat.le_trans h.bel.size h1, h2, by omega, h3, h4⟩
theorem Bf.below {w0 wx w' : World} {r g n c : Nat} {t : TypeId} {C : Array Value} {l : List UInt8} (h : Bf w0 r t C wx g n c l) (hb : Below wx.heap.size wx w') : Bf w0 r t C w' g n c l := by
  have hr : r < wx.heap.size := (Array.getElem?_eq_some_iff.1 h.blk).1
  exact ⟨(hb.block r hr).trans h.blk, h.bel.trans (hb.mono h.bel.size), Own.keep h.own hb, h.len, h.rge, h.gge, Nat.lt_of_lt_of_le h.glt hb.size, h.gne, h.cap, h.cam⟩
/-- append(b, x...) onto them. -/
theorem Bf.app {w0 wx w' : World} {r g n c g' : Nat} {t : TypeId} {C : Array Value} {l m : List UInt8} {v : Value} {P : Prop} (h : Bf w0 r t C wx g n c l) (hv : v = .slice none 0 0 ↔ Value.slice (some ⟨g, 0, none⟩) n c = .slice none 0 0 ∧ P ∨ Value.slice (some ⟨g, 0, none⟩) n c = .slice none 0 0 ∧ m = []) (ho : Own w' g' v (l ++ m)) (hg : g' = g ∨ g' = wx.heap.size) (hO : Only (· = g) wx w') :
    ∃ n' c', v = .slice (some ⟨g', 0, none⟩) n' c' ∧ n' ≤ n + m.length ∧ Bf w0 r t C w' g' n' c' (l ++ m) := by
  have hn0 : v ≠ .slice none 0 0 := fun e => by rcases hv.1 e with h | h <;> exact absurd h.1 (by intro h2; cases h2)
  obtain ⟨c', rfl, k1, k2, k3⟩ := ho.shape hn0
  have hr : r < wx.heap.size := (Array.getElem?_eq_some_iff.1 h.blk).1
  refine ⟨_, c', rfl, by rw [List.length_append, h.len]; omega, (hO.block r hr (by have := h.gne; omega)).trans h.blk, below_only h.bel h.bel.size hO (by intro k hk e; have := h.gge; omega), ho, rfl, h.rge, ?_, k3, ?_, k1, k2⟩
  · rcases hg with rfl | rfl
    · exact h.gge
    · exact h.bel.size
  · rcases hg with rfl | rfl
    · exact h.gne
    · omega

def SPutYes (w : World) (X : List UInt8) (e : Ending) (w' : World) : Prop := ∃ g n c, e = .returned (.tuple #[.slice (some ⟨g, 0, none⟩) n c, .int .i64 0]) ∧ X.length = n ∧ w.heap.size ≤ g ∧ g < w'.heap.size ∧ n ≤ c ∧ c ≤ maxLen ∧ Own w' g (.slice (some ⟨g, 0, none⟩) n c) X ∧ Below w.heap.size w w'
theorem Bf.done {w wx : World} {r g n c : Nat} {t : TypeId} {C : Array Value} {l X : List UInt8} (h : Bf w r t C wx g n c l) (hX : X = l) : SPutYes w X (.returned (.tuple #[.slice (some ⟨g, 0, none⟩) n c, .int .i64 0])) wx := by
  subst hX
  exact ⟨g, n, c, rfl, h.len, h.gge, h.glt, h.cap, h.cam, h.own, h.bel⟩

/-- What a call that puts more leaves. -/
def BufR (w0 : World) (r : Nat) (t : TypeId) (C : Array Value) (N : Nat) (l : List UInt8) (e : Ending) (w' : World) : Prop := ∃ g n c, e = .returned (.slice (some ⟨g, 0, none⟩) n c) ∧ n ≤ N ∧ Bf w0 r t C w' g n c l

theorem putU {w0 wx : World} {r g n c : Nat} {t : TypeId} {C : Array Value} {l : List UInt8} (h : Bf w0 r t C wx g n c l) (x y : Int) (hx : 0 ≤ x) (hy : 1 ≤ y ∧ y ≤ 4) (hk : x.toNat < 256 ^ y.toNat) (hn : n ≤ 100000) :
    Calls Tryz.prog 46 #[.slice (some ⟨g, 0, none⟩) n c, .int .i64 x, .int .i64 y] wx (BufR w0 r t C (n + 4) (l ++ be x.toNat y.toNat)) := by
  obtain ⟨k, rfl⟩ : ∃ k : Nat, x = k := ⟨x.toNat, by omega⟩
  obtain ⟨W, rfl⟩ : ∃ W : Nat, y = W := ⟨y.toNat, by omega⟩
  simp only [Int.toNat_natCast] at hk ⊢
  refine (put_yes (· = g) _ n c l k W wx h.own.rd (by intro h; cases h) (by rw [h.len]; omega) h.len (by omega) hk).mono ?_
  rintro e w' ⟨g', n', c', rfl, h1, h2, h3, h4, h5, h6, h7⟩
  exact ⟨g', n', c', rfl, by rw [← h1, List.length_append, be_length, h.len]; omega, h.step h7 h2 h1 h3 h4 h5 h6⟩
theorem putV {w0 wx : World} {r g n c : Nat} {t : TypeId} {C : Array Value} {l : List UInt8} (h : Bf w0 r t C wx g n c l) (S2 : Nat → Prop) (p2 : Option Addr) (n2 c2 : Nat) (v : List UInt8) (y : Int) (hy : 1 ≤ y ∧ y ≤ 4) (hv : v.length = n2) (hp2 : p2 = none → c2 = 0) (hR : Rd w0 S2 p2 v) (hk : n2 < 256 ^ y.toNat) (hn : n ≤ 100000) (hn2 : n2 ≤ 100000) :
    Calls Tryz.prog 30 #[.slice (some ⟨g, 0, none⟩) n c, .slice p2 n2 c2, .int .i64 y] wx (BufR w0 r t C (n + 4 + n2) (l ++ (be n2 y.toNat ++ v))) := by
  obtain ⟨W, rfl⟩ : ∃ W : Nat, y = W := ⟨y.toNat, by omega⟩
  simp only [Int.toNat_natCast] at hk ⊢
  refine (vec_yes (· = g) S2 _ p2 n c n2 c2 l v W wx h.own.rd (by intro h; cases h) h.len (hR.below h.bel) hp2 hv (by rw [h.len]; omega) (by omega) hk).mono ?_
  rintro e w' ⟨g', n', c', rfl, h1, h2, h3, h4, h5, h6, h7⟩
  rw [List.append_assoc] at h1 h6
  exact ⟨g', n', c', rfl, by rw [← h1, List.length_append, List.length_append, be_length, h.len, hv]; omega, h.step h7 h2 h1 h3 h4 h5 h6⟩
end Go.Proofs.YtolgaapiedbkfaaGreat
/-
  The contract of snap.Put. Conditions: the State's bytes lie still.
-/
namespace Go.Proofs.YtolgaapiedbkfaaGreat
open Go.RowKit Go.Kx
set_option linter.unusedVariables false
set_option linter.unusedSimpArgs false

theorem blk_cells {wx : World} {r : Nat} {t : TypeId} {C : Array Value} {ph : Int} {lg : Value} {sm : List UInt8} {a b c d : Int} {sl : Bool} {pt us : Value} {al : Int} (hb : wx.heap[r]? = some (.cells C t (0, 0))) (h : StC C ph lg sm a b c d sl pt us al) :
    wx.cell? ⟨r, 0, none⟩ = some (.int .i64 ph) ∧ wx.cell? ⟨r, 1, none⟩ = some lg ∧ wx.cell? ⟨r, 226, none⟩ = some (.int .i64 a) ∧ wx.cell? ⟨r, 227, none⟩ = some (.int .i64 b) ∧ wx.cell? ⟨r, 228, none⟩ = some (.int .i64 c) ∧ wx.cell? ⟨r, 229, none⟩ = some (.int .i64 d) ∧ wx.cell? ⟨r, 230, none⟩ = some (.bool sl) ∧ wx.cell? ⟨r, 231, none⟩ = some pt ∧ wx.cell? ⟨r, 232, none⟩ = some us ∧ wx.cell? ⟨r, 233, none⟩ = some (.int .i64 al) := by
  have k := StB.cellC hb
  exact ⟨(k 0).trans h.e0, (k 1).trans h.e1, (k 226).trans h.e226, (k 227).trans h.e227, (k 228).trans h.e228, (k 229).trans h.e229, (k 230).trans h.e230, (k 231).trans h.e231, (k 232).trans h.e232, (k 233).trans h.e233⟩
theorem blk_range {wx : World} {r : Nat} {t : TypeId} {C : Array Value} {fr : Nat × Nat} (hb : wx.heap[r]? = some (.cells C t fr)) : wx.rangeAt r 0 C.toList := by
  intro j v hv
  rw [cell_of_row wx r (0 + j) C t fr hb, Nat.zero_add]
  simpa using hv
theorem Own.lit2 (w : World) (b1 b2 : UInt8) : Own (w.alloc (.cells #[.int .u8 (b1.toNat : Int), .int .u8 (b2.toNat : Int)] 5)) w.heap.size (.slice (some ⟨w.heap.size, 0, none⟩) 2 2) [b1, b2] :=
  ⟨⟨by simp, .inr ⟨w.heap.size, 2, #[.int .u8 (b1.toNat : Int), .int .u8 (b2.toNat : Int)], by simp, Nat.zero_le _, heap_alloc_new w _, by simp, by simp [maxLen], by simp, by simp⟩⟩, .inr rfl⟩

theorem Tryz.infoS : (Tryz.prog.info? 71).map (·.size) = some 234 := by kernel_rfl

def SPutNo (w : World) (e : Ending) (w' : World) : Prop := e = .returned (.tuple #[.slice none 0 0, .int .i64 1]) ∧ Below w.heap.size w w'

set_option maxHeartbeats 4000000 in
set_option maxRecDepth 100000 in
theorem sput_no (s : St) (C : Array Value) (v : Int) (w : World) (h : IsSt w C s) (hn : ¬ (okS s ∧ 1 ≤ v ∧ v ≤ 3)) : Calls Tryz.prog 28 #[.agg C, .int .i64 v] w (SPutNo w) := by
  have hsz : C.toList.length = 234 := by obtain ⟨_, _, _, hC, _⟩ := h; simpa using hC.size
  have hrg := blk_range (heap_alloc_new w (.cells C 71))
  have hB : Below w.heap.size w (w.alloc (.cells C 71)) := (Below.refl _ _).alloc (Nat.le_refl _) _
  have H := Lib.hid (And.intro (h.below hB) (And.intro hrg (And.intro hB hsz)))
  clear h hrg hB hsz
  have hE : ∀ w1, Below (w.alloc (.cells C 71)).heap.size (w.alloc (.cells C 71)) w1 → Below w.heap.size w w1 := fun w1 b1 => H.out.2.2.1.trans (b1.mono H.out.2.2.1.size)
  have HE := Lib.hid hE
  clear hE
  by_cases hk : okS s
  · have hd : decide (okS s) = true := decide_eq_true hk
    have hv : decide (1 ≤ v ∧ v ≤ 3) = false := decide_eq_false (fun h => hn ⟨hk, h⟩)
    clear hk hn
    go_enter Tryz.func28, Tryz.ntmps28
    go_wp2_with (first
      | (refine wpList_load_mid rfl 71 (.tmp 2) rfl w.heap.size 0 rfl C.toList _ H.out.2.1 Tryz.underlying71 rfl (by rw [H.out.2.2.2]; exact Tryz.infoS) ?_; rw [Array.toArray_toList])
      | (go_at_call 58; refine (right_s C s _ H.out.1).mono ?_; rintro e w1 ⟨rfl, b1⟩)
      | (go_at_call 59; refine (between_c _ _ _ _).mono ?_; rintro e w2 ⟨rfl, rfl⟩))
    go_ret2
    exact ⟨rfl, HE.out _ b1⟩
  · have hd : decide (okS s) = false := decide_eq_false hk
    clear hk hn
    go_enter Tryz.func28, Tryz.ntmps28
    go_wp2_with (first
      | (refine wpList_load_mid rfl 71 (.tmp 2) rfl w.heap.size 0 rfl C.toList _ H.out.2.1 Tryz.underlying71 rfl (by rw [H.out.2.2.2]; exact Tryz.infoS) ?_; rw [Array.toArray_toList])
      | (go_at_call 58; refine (right_s C s _ H.out.1).mono ?_; rintro e w1 ⟨rfl, b1⟩))
    go_ret2
    exact ⟨rfl, HE.out _ b1⟩

/-- Where the seven pointers lie, and what is put yet. -/
def SRel (w0 : World) (r : Nat) (C : Array Value) (gs : Nat) (N : Nat) (l sm : List UInt8) (v6 v29 : Value) (wr : World) : Prop :=
  ∃ i g n c : Nat, v29 = .int .i64 (i : Int) ∧ v6 = .slice (some ⟨g, 0, none⟩) n c ∧ i ≤ 7 ∧ n ≤ N + 32 * i ∧ Bf w0 r 71 C wr g n c (l ++ sm.take (32 * i)) ∧ gs < wr.heap.size ∧ g ≠ gs ∧ (∀ k, k < 7 → wr.cell? ⟨gs, k, none⟩ = some (.pointer (some ⟨r, 2 + 32 * k, none⟩)))

set_option maxHeartbeats 4000000 in
set_option maxRecDepth 100000 in
theorem sput_yes (s : St) (C : Array Value) (v : Nat) (w : World) (h : IsSt w C s) (hs : okS s) (hv : 1 ≤ v ∧ v ≤ 3) : Calls Tryz.prog 28 #[.agg C, .int .i64 (v : Int)] w (SPutYes w (snB s v)) := by
  obtain ⟨lg, pt, us, hC, ⟨p1, n1, c1, rfl, l1, R1, z1, y1, x1⟩, ⟨p2, n2, c2, rfl, l2, R2, z2, y2, x2⟩, ⟨p3, n3, c3, rfl, l3, R3, z3, y3, x3⟩⟩ := id h
  have hsz : C.toList.length = 234 := by simpa using hC.size
  have hrg := blk_range (heap_alloc_new w (.cells C 71))
  have hB : Below w.heap.size w (w.alloc (.cells C 71)) := (Below.refl _ _).alloc (Nat.le_refl _) _
  have hbk := heap_alloc_new w (.cells C 71)
  have HS := Lib.hid hs
  have hd : decide (okS s) = true := decide_eq_true hs
  have hvd : decide (1 ≤ (v : Int) ∧ (v : Int) ≤ 3) = true := decide_eq_true (by omega)
  obtain ⟨⟨a1, a2⟩, ⟨b1, b2⟩, ⟨k1, k2⟩, ⟨d1, d2⟩, ⟨f1, f2⟩, ⟨g1, g2⟩, m1, m2, m3⟩ := hs
  obtain ⟨ph, lgs, sm, a, b, c, d, sl, pts, uss, al⟩ := s
  simp only at *
  have i1 : IntKind.u8.wrap (v : Int) = (v : Int) := by rw [IntKind.wrap_u8]; omega
  have i2 : IntKind.u8.wrap ph = ph := by rw [IntKind.wrap_u8]; omega
  have i3 : IntKind.u8.wrap a = a := by rw [IntKind.wrap_u8]; omega
  have i4 : IntKind.u8.wrap b = b := by rw [IntKind.wrap_u8]; omega
  have hn1 : n1 ≤ 20000 := by omega
  have hn2 : n2 ≤ 4096 := by omega
  have hn3 : n3 ≤ 255 := by omega
  have HR := Lib.hid (And.intro (h.below hB) (And.intro hrg (And.intro hB hsz)))
  have HQ := Lib.hid (And.intro (And.intro l1 (And.intro R1 z1)) (And.intro (And.intro l2 (And.intro R2 z2)) (And.intro l3 (And.intro R3 z3))))
  have HC := Lib.hid hC
  have HK := Lib.hid hbk
  clear h hrg hB hsz hbk hC l1 R1 z1 l2 R2 z2 l3 R3 z3 m1 m2 m3 y1 x1 y2 x2 y3 x3
  go_enter Tryz.func28, Tryz.ntmps28
  go_upto_region 4 with (first
      | (refine wpList_load_mid rfl 71 (.tmp 2) rfl w.heap.size 0 rfl C.toList _ HR.out.2.1 Tryz.underlying71 rfl (by rw [HR.out.2.2.2]; exact Tryz.infoS) ?_; rw [Array.toArray_toList])
      | (go_at_call 58; refine (right_s C _ _ HR.out.1).mono ?_; rintro e w1 ⟨rfl, b1⟩; have z1 : w.heap.size < w1.heap.size := (by have := b1.size; simp at this; omega); obtain ⟨e0, e1, e2, e3, e4, e5, e6, e7, e8, e9⟩ := blk_cells ((b1.block _ (by simp)).trans HK.out) HC.out)
      | (go_at_call 59; refine (between_c _ _ _ _).mono ?_; rintro e w2 ⟨rfl, rfl⟩))
  obtain ⟨L0, hL0⟩ : ∃ L, L = be v 1 ++ be ph.toNat 1 := ⟨_, rfl⟩
  have hb0 : Bf w w.heap.size 71 C (w1.alloc (.cells #[.int .u8 (v : Int), .int .u8 ph] 5)) w1.heap.size 2 2 L0 := by
    have hB1 : Below w.heap.size w w1 := HR.out.2.2.1.trans (b1.mono HR.out.2.2.1.size)
    have e1 : ((UInt8.ofNat v).toNat : Int) = (v : Int) := by rw [UInt8.toNat_ofNat']; omega
    have e2 : ((UInt8.ofNat ph.toNat).toNat : Int) = ph := by rw [UInt8.toNat_ofNat']; omega
    have ho := Own.lit2 w1 (UInt8.ofNat v) (UInt8.ofNat ph.toNat)
    rw [e1, e2] at ho
    have hl : L0 = [UInt8.ofNat v, UInt8.ofNat ph.toNat] := by rw [hL0]; simp [be]
    rw [hl]
    exact ⟨(((Below.refl _ w1).alloc (Nat.le_refl _) _).block _ z1).trans ((b1.block _ (by simp)).trans HK.out), hB1.alloc hB1.size _, ho, rfl, Nat.le_refl _, hB1.size, by simp, by omega, by omega, by simp [maxLen]⟩
  have HL0 := Lib.hid hL0
  have HB0 := Lib.hid hb0
  clear hL0 hb0 e0 e1 e2 e3 e4 e5 e6 e7 e8 e9 z1 b1
  refine (putV HB0.out _ _ _ _ _ _ (by omega) HQ.out.1.1 HQ.out.1.2.2 HQ.out.1.2.1 (by simp; omega) (by omega) (by omega)).mono ?_
  rintro e w2 ⟨g, n, c5, rfl, hle, hB⟩
  have HB := Lib.hid hB
  clear hB
  go_upto_block 0 with (go_at_call 60; refine (sums_c _ _).mono ?_; rintro e w3 ⟨gs, rfl, q1, q2, q3, q4⟩)
  have hB3 := HB.out.below q4
  have HB3 := Lib.hid hB3
  obtain ⟨L1, hL1⟩ : ∃ L, L = L0 ++ (be n1 (2 : Int).toNat ++ lgs) := ⟨_, rfl⟩
  rw [← hL1] at HB HB3
  have HL1 := Lib.hid hL1
  have hgs : g ≠ gs := by have := HB.out.glt; omega
  have hle2 : n ≤ 20006 := by omega
  have HC0 := Lib.hid q3
  have HSM := Lib.hid HC.out.len
  clear hB3 hL1 q4 q3 HB hle
  go_cut [6] (fun v6 wx => ∃ g n c : Nat, v6 = .slice (some ⟨g, 0, none⟩) n c ∧ n ≤ 20230 ∧ Bf w w.heap.size 71 C wx g n c (L1 ++ sm))
  case first =>
    go_wp2_with fail
    go_loopw [6, 29] (fun v6 v29 wr => SRel w w.heap.size C gs 20006 L1 sm v6 v29 wr) (fun _ v29 _ => 7 - (intOf v29).toNat)
    case atStart => exact ⟨0, g, n, c5, rfl, rfl, by omega, by omega, by simpa using HB3.out, q2, hgs, HC0.out⟩
    case round =>
      obtain ⟨i, g, n, c, rfl, rfl, hi, hn, hB, hgl, hgg, hp⟩ := hrel
      have HB := Lib.hid hB
      by_cases hlt : i < 7
      · have d0 := hp i hlt
        have HP := Lib.hid hp
        have hrd := StB.sum ⟨C, hB.blk, HC.out⟩ i hlt
        have hrl : ((sm.drop (32 * i)).take 32).length = 32 := by rw [List.length_take, List.length_drop, HSM.out]; omega
        have HRD := Lib.hid (And.intro hrd hrl)
        clear hB hp hrd hrl
        go_wp2_with (at_builtin; refine wpList_append_bytes _ rfl (.tmp 33) (.tmp 36) 38 rfl Tryz.underlying38 Tryz.info5 g _ (L1 ++ sm.take (32 * i)) rfl HB.out.own (· = w.heap.size) _ 32 32 ((sm.drop (32 * i)).take 32) rfl HRD.out.2 (by intro h; cases h) HRD.out.1 (by rw [HRD.out.2, HB.out.len]; omega) ?_; intro g' vx w4 ho' hg' hO hnil)
        obtain ⟨n', c', rfl, hle', hB'⟩ := HB.out.app hnil ho' hg' hO
        rw [HRD.out.2] at hle'
        have e : L1 ++ sm.take (32 * i) ++ (sm.drop (32 * i)).take 32 = L1 ++ sm.take (32 * (i + 1)) := by
          rw [List.append_assoc, show 32 * (i + 1) = 32 * i + 32 by omega, List.take_add]
        rw [e] at hB'
        have HB2 := Lib.hid hB'
        have hgl' : gs < w4.heap.size := Nat.lt_of_lt_of_le hgl hO.size
        have hgg' : g' ≠ gs := by rcases hg' with h | h <;> omega
        have HP2 := Lib.hid (fun k (hk : k < 7) => (only_cell hO (p := ⟨gs, k, none⟩) hgl (by show ¬ gs = g; omega)).trans (HP.out k hk))
        clear hB' hnil ho' hg' hO d0 e
        go_wp2
        exact ⟨⟨i + 1, g', n', c', by simp, rfl, by omega, by omega, HB2.out, hgl', hgg', HP2.out⟩, by simp [intOf]; omega⟩
      · have hi7 : i = 7 := by omega
        have e : L1 ++ sm.take (32 * i) = L1 ++ sm := by rw [hi7, List.take_of_length_le (by rw [HSM.out]; omega)]
        have HE := Lib.hid e
        have hn' : n ≤ 20230 := by omega
        have hi8 : ¬ (i : Int) < 7 := by omega
        clear hB hp hi7 e
        go_wp2
        go_meet
        exact ⟨g, n, c, rfl, hn', by rw [← HE.out]; exact HB.out⟩
  case rest =>
    obtain ⟨g, n, cq, rfl, hn, hB⟩ := hcut
    have HB := Lib.hid hB
    have hSS : ∀ wx : World, wx.heap[w.heap.size]? = some (.cells C 71 (0, 0)) → wx.cell? ⟨w.heap.size, 228, none⟩ = some (.int .i64 c) ∧ wx.cell? ⟨w.heap.size, 229, none⟩ = some (.int .i64 d) := fun wx hb => ⟨(blk_cells hb HC.out).2.2.2.2.1, (blk_cells hb HC.out).2.2.2.2.2.1⟩
    have hST : ∀ wx : World, wx.heap[w.heap.size]? = some (.cells C 71 (0, 0)) → wx.cell? ⟨w.heap.size, 231, none⟩ = some (.slice p2 n2 c2) := fun wx hb => (blk_cells hb HC.out).2.2.2.2.2.2.2.1
    have SS := Lib.hid hSS
    have ST := Lib.hid hST
    have hrl : w.heap.size < wc.heap.size := (Array.getElem?_eq_some_iff.1 hB.blk).1
    obtain ⟨L3, hL3⟩ : ∃ L, L = (L1 ++ sm) ++ [UInt8.ofNat a.toNat, UInt8.ofNat b.toNat] := ⟨_, rfl⟩
    have HL3 := Lib.hid hL3
    have hb0 := hB.below ((Below.refl _ wc).alloc (Nat.le_refl _) (.cells #[.int .u8 a, .int .u8 b] 5))
    have hlit : Rd (wc.alloc (.cells #[.int .u8 a, .int .u8 b] 5)) (· = wc.heap.size) (some ⟨wc.heap.size, 0, none⟩) [UInt8.ofNat a.toNat, UInt8.ofNat b.toNat] := by
      have ho := (Own.lit2 wc (UInt8.ofNat a.toNat) (UInt8.ofNat b.toNat)).rd
      rw [show ((UInt8.ofNat a.toNat).toNat : Int) = a by rw [UInt8.toNat_ofNat']; omega, show ((UInt8.ofNat b.toNat).toNat : Int) = b by rw [UInt8.toNat_ofNat']; omega] at ho
      exact ho
    have HB0 := Lib.hid (And.intro hb0 hlit)
    obtain ⟨e0, e1, e2, e3, e4, e5, e6, e7, e8, e9⟩ := blk_cells hB.blk HC.out
    clear hB hSS hST hL3 hb0 hlit e0 e1 e4 e5 e6 e7 e8 e9
    go_upto_region 10 with (at_builtin; refine wpList_append_bytes _ rfl (.tmp 39) (.tmp 46) 38 rfl Tryz.underlying38 Tryz.info5 g _ (L1 ++ sm) rfl HB0.out.1.own (· = wc.heap.size) _ 2 2 [UInt8.ofNat a.toNat, UInt8.ofNat b.toNat] rfl rfl (by intro h; cases h) HB0.out.2 (by rw [HB0.out.1.len]; simp; omega) ?_; intro g4 vx w4 ho' hg' hO hnil; obtain ⟨n4, c4, rfl, hle4, hB4⟩ := HB0.out.1.app hnil ho' hg' hO)
    simp only [List.length_cons, List.length_nil] at hle4
    rw [← HL3.out] at hB4
    have hn4 : n4 ≤ 20240 := by omega
    have HB4 := Lib.hid (hB4.below ((Below.refl _ _).drew))
    clear hnil ho' hg' hO hB4 e2 e3
    obtain ⟨L5, hL5⟩ : ∃ L, L = L3 ++ be c.toNat (2 : Int).toNat ++ be d.toNat (2 : Int).toNat := ⟨_, rfl⟩
    have HL5 := Lib.hid hL5
    clear hL5
    go_cut [6] (fun v6 wx => ∃ g n cq : Nat, v6 = .slice (some ⟨g, 0, none⟩) n cq ∧ n ≤ 20250 ∧ Bf w w.heap.size 71 C wx g n cq L5)
    case first =>
      go_region_held3 (fun w' => w'.cell? ⟨w.heap.size, 228, none⟩ = some (.int .i64 c) ∧ w'.cell? ⟨w.heap.size, 229, none⟩ = some (.int .i64 d)) (first | exact SS.out _ hB7.blk | exact SS.out _ hB6.blk | exact SS.out _ HB4.out.blk | go_keep)
        (first
          | (go_at_call 46; have hq := hB6; refine (putU hB6 _ _ (by omega) (by omega) (by simp; omega) (by omega)).mono ?_; rintro e w7 ⟨g7, n7, c7, rfl, hle7, hB7⟩)
          | (go_at_call 46; refine (putU HB4.out _ _ (by omega) (by omega) (by simp; omega) (by omega)).mono ?_; rintro e w6 ⟨g6, n6, c6, rfl, hle6, hB6⟩))
      all_goals go_wp2
      all_goals go_meet
      all_goals exact ⟨g7, n7, c7, rfl, by omega, by rw [HL5.out]; exact hB7⟩
    case rest =>
      obtain ⟨g, n, cr, rfl, hn, hB⟩ := hcut
      have HB := Lib.hid (hB.below ((Below.refl _ _).drew))
      obtain ⟨L6, hL6⟩ : ∃ L, L = L5 ++ be (if sl then 1 else 0) 1 ++ (be n2 2 ++ pts) := ⟨_, rfl⟩
      have hF : snB { ph := ph, lg := lgs, sm := sm, a := a, b := b, c := c, d := d, sl := sl, pt := pts, us := uss, al := al } v = L6 ++ ((if 2 ≤ v then be n3 1 ++ uss else []) ++ (if 3 ≤ v then be (al + 1).toNat 2 else [])) := by
        rw [hL6, HL5.out, HL3.out, HL1.out, HL0.out]
        unfold snB bdB usB alB
        simp only [HQ.out.1.1, HQ.out.2.1.1, HQ.out.2.2.1]
        simp [be]
      have HF := Lib.hid hF
      have HL6 := Lib.hid hL6
      obtain ⟨-, -, -, -, -, -, e6, -, -, -⟩ := blk_cells hB.blk HC.out
      clear hB hF hL6
      cases sl
      all_goals
        go_upto_region 14 with (fail)
        go_cut [6] (fun v6 wx => ∃ g n cq : Nat, v6 = .slice (some ⟨g, 0, none⟩) n cq ∧ n ≤ 25000 ∧ Bf w w.heap.size 71 C wx g n cq L6)
        case first =>
          go_region_held3 (fun w' => w'.cell? ⟨w.heap.size, 231, none⟩ = some (.slice p2 n2 c2)) (first | exact ST.out _ hB7.blk | exact ST.out _ hB6.blk | exact ST.out _ HB.out.blk | go_keep)
            (first
              | (go_at_call 30; refine (putV hB6 _ _ _ _ _ _ (by omega) HQ.out.2.1.1 HQ.out.2.1.2.2 HQ.out.2.1.2.1 (by simp; omega) (by omega) (by omega)).mono ?_; rintro e w7 ⟨g7, n7, c7, rfl, hle7, hB7⟩)
              | (go_at_call 46; refine (putU HB.out _ _ (by omega) (by omega) (by simp) (by omega)).mono ?_; rintro e w6 ⟨g6, n6, c6, rfl, hle6, hB6⟩))
          all_goals go_wp2
          all_goals go_meet
          all_goals exact ⟨g7, n7, c7, rfl, by omega, by rw [HL6.out]; simpa using hB7⟩
        case rest =>
          obtain ⟨g, n, cr, rfl, hn, hB⟩ := hcut
          obtain ⟨-, -, -, -, -, -, -, -, e8, e9⟩ := blk_cells hB.blk HC.out
          go_wp2_with (first
            | (go_at_call 30; refine (putV hB _ _ _ _ _ _ (by omega) HQ.out.2.2.1 HQ.out.2.2.2.2 HQ.out.2.2.2.1 (by simp; omega) (by omega) (by omega)).mono ?_; rintro e w8 ⟨g8, n8, c8, rfl, hle8, hB8⟩; obtain ⟨-, -, -, -, -, -, -, -, -, e9'⟩ := blk_cells hB8.blk HC.out)
            | (go_at_call 46; have hq := hB8; refine (putU hB8 _ _ (by omega) (by omega) (by simp; omega) (by omega)).mono ?_; rintro e w9 ⟨g9, n9, c9, rfl, hle9, hB9⟩))
          all_goals go_ret2
          · exact hB9.done (by rw [HF.out, if_pos (by omega), if_pos (by omega), ← List.append_assoc]; rfl)
          · exact hB8.done (by rw [HF.out, if_pos (by omega), if_neg (by omega), List.append_nil]; rfl)
          · exact hB.done (by rw [HF.out, if_neg (by omega), if_neg (by omega)]; simp)
end Go.Proofs.YtolgaapiedbkfaaGreat
/-
  The State that is none, and the one of the start (server.New). No condition.
-/
namespace Go.Proofs.YtolgaapiedbkfaaGreat
open Go.RowKit Go.Kx
set_option linter.unusedVariables false
set_option linter.unusedSimpArgs false

/-- The cells of no State. -/
def zL : List Value := [.int .i64 0, .slice none 0 0] ++ (List.replicate 224 (.int .u8 0) ++ [.int .i64 0, .int .i64 0, .int .i64 0, .int .i64 0, .bool false, .slice none 0 0, .slice none 0 0, .int .i64 0])
def zC : Array Value := zL.toArray
def nC : Array Value := zC.setIfInBounds 233 (.int .i64 (-1))
theorem zL_length : zL.length = 234 := by kernel_rfl
theorem zC_size : zC.size = 234 := zL_length
theorem nC_size : nC.size = 234 := by unfold nC; rw [Array.size_setIfInBounds, zC_size]
theorem mid_cells (A B : Value) (m : Nat) (T : List Value) (i : Nat) (hi : i < m) : ([A, B] ++ (List.replicate m (.int .u8 0) ++ T))[2 + i]? = some (.int .u8 0) := by
  rw [List.getElem?_append_right (by simp)]
  simp only [List.length_cons, List.length_nil, Nat.zero_add, Nat.reduceAdd, Nat.add_sub_cancel_left]
  rw [List.getElem?_append_left (by simpa using hi)]
  simp [hi]
theorem zC_ok : StC zC 0 (.slice none 0 0) (List.replicate 224 0) 0 0 0 0 false (.slice none 0 0) (.slice none 0 0) 0 := by
  refine ⟨zC_size, List.length_replicate, by kernel_rfl, by kernel_rfl, ?_, by kernel_rfl, by kernel_rfl, by kernel_rfl, by kernel_rfl, by kernel_rfl, by kernel_rfl, by kernel_rfl, by kernel_rfl⟩
  intro i hi
  have hi' : i < 224 := by rwa [List.length_replicate] at hi
  rw [List.getElem_replicate, show B8 0 = .int .u8 0 from rfl]
  unfold zC
  rw [List.getElem?_toArray]
  unfold zL
  exact mid_cells _ _ 224 _ i hi'
theorem nC_ok : StC nC 0 (.slice none 0 0) (List.replicate 224 0) 0 0 0 0 false (.slice none 0 0) (.slice none 0 0) (-1) :=
  zC_ok.put (by simp) (by simp) (by omega) (by simp) (by simp) (by simp) (by simp) (by simp) (by simp) (by simp) (by simp)
theorem zC_one : zC.all (·.oneCell') = true := by decide +kernel
theorem nC_one : nC.all (·.oneCell') = true := by decide +kernel

theorem Tryz.zeroS : (Tryz.prog.info? 71).map (fun i => (i.zero, i.size)) = some (some (.agg zC), 234) := by kernel_rfl
theorem Tryz.builtN : Tryz.prog.built 71 [(14, .int .i64 (-1))] = some nC := by kernel_rfl
theorem Tryz.builtZ : Tryz.prog.built 71 [] = some zC := by kernel_rfl
theorem run_zeroS (w : World) : (zeroValue 71).run Tryz.prog w = .ok (.agg zC) w := (zero_of_info Tryz.zeroS).1 w
theorem run_buildN (w : World) : (Instr.build 71 #[(14, .int .i64 (-1))]).run Tryz.prog w = .ok (.agg nC) w := run_build w _ _ _ Tryz.builtN

theorem run_buildZ (w : World) : (Instr.build 71 #[]).run Tryz.prog w = .ok (.agg zC) w := run_build w _ _ _ Tryz.builtZ

theorem only_setRowS {q : Nat → Prop} (w : World) (g : Nat) (cs : Array Value) (h : q g) : Only q w (w.setRow g cs) :=
  ⟨rfl, rfl, rfl, by simp, fun k _ hk => setRow_other w g k cs (fun e => hk (e ▸ h))⟩

/-- A result that is a struct in memory beside two more. -/
theorem results_cttS {P : Program} {fn : Func} (p u v : Tmp) {ty : TypeId} (h : fn.results = #[.cell p ty, .tmp u, .tmp v]) (tmps : Array Value) (w : World) (g : Nat) (t : TypeId) (cs : Array Value) (fr : Nat × Nat) (d : TypeDesc) (U V : Value)
    (hp : tmps.getD p undef = .pointer (some ⟨g, 0, none⟩)) (hU : tmps.getD u undef = U) (hV : tmps.getD v undef = V) (hg : w.heap[g]? = some (.cells cs t fr))
    (hu : P.underlying ty = some d) (hd : (match d with | .struct _ | .array _ _ => true | _ => false) = true) (hi : (P.info? ty).map (·.size) = some cs.size) :
    (results fn tmps).run P w = .ok (.tuple #[.agg cs, U, V]) w := by
  subst hU hV
  have hp' : tmps[p]?.getD undef = .pointer (some ⟨g, 0, none⟩) := by simpa using hp
  simp [results, h, hp', asAddr, run_loadVar_row w g t ty cs fr d hg hu hd hi]

/-- The load of a struct, where its guard lets it be. -/
theorem wpList_load_wanted {P : Program} {ops : Array Oper} {rest : List Oper} {op : Oper} {a : Act} {w : World} {Q : Exit → Act → World → Prop} (hw : Region.wanted op (yielded ops a.tmps) = true) (ty : TypeId) (x : Operand) (ho : op.op = .load ty x)
    (b o : Nat) (hx : a.eval x = .pointer (some ⟨b, o, none⟩)) (cs : List Value) (d : TypeDesc) (hc : w.rangeAt b o cs)
    (hu : P.underlying ty = some d) (hd : d.isRow = true) (hi : (P.info? ty).map (·.size) = some cs.length)
    (h : wpList P ops Q rest (a.put op.dst (.agg cs.toArray)) w) : wpList P ops Q (op :: rest) a w :=
  wpList_step fun _ hK => by rw [if_pos hw]; exact wp_load_mid ty x ho b o hx cs d hc hu hd hi (hK _ _ h)

set_option maxHeartbeats 4000000 in
set_option maxRecDepth 100000 in
theorem snew_c (w : World) : Calls Tryz.prog 20 #[] w fun e w' => e = .returned (.agg nC) ∧ Below w.heap.size w w' := by
  have hz := run_zeroS
  have hb := run_buildN
  go_enter Tryz.func20, Tryz.ntmps20
  go_wp2_with (refine wpList_store_row rfl 71 (.tmp 0) (.tmp 1) rfl w.heap.size nC rfl rfl 71 zC (heap_alloc_new w _) (by rw [nC_size]; exact Tryz.infoS) (by rw [nC_size, zC_size]) nC_one ?_)
  have hst := setRow_heap (w.alloc (.cells zC 71)) w.heap.size zC nC 71 (0, 0) (heap_alloc_new w _)
  refine bodyPost_ret (v := .agg nC) (results_cell_row rfl _ _ w.heap.size 71 nC (0, 0) _ rfl hst Tryz.underlying71 rfl (by rw [nC_size]; exact Tryz.infoS)) rfl ⟨rfl, ?_⟩
  exact below_only ((Below.refl _ w).alloc (Nat.le_refl _) _) (by simp) (only_setRowS (q := fun k => k = w.heap.size) _ _ _ rfl) (by intro k hk e; omega)
end Go.Proofs.YtolgaapiedbkfaaGreat
/-
  Numbers of 32 bits as Lean's own UInt32: what the operators tell of them. Of any program; no condition but those that each theorem states.
-/
namespace Go.Kx
open Go.RowKit

/-- A number of 32 bits. -/
def U (x : UInt32) : Value := .int .u32 (x.toNat : Int)
theorem U_def (x : UInt32) : U x = .int .u32 (x.toNat : Int) := rfl

theorem wrap_u32 (n : Nat) : IntKind.u32.wrap (n : Int) = ((n % 4294967296 : Nat) : Int) := by
  unfold IntKind.wrap
  simp [IntKind.bits, IntKind.signed]

section
variable {P : Program} {w : World} {t : TypeId} (x y : UInt32)
theorem U_add : (binOp .add t (U x) (U y)).run P w = .ok (U (x + y)) w := by
  have h : IntKind.u32.wrap ((x.toNat : Int) + (y.toNat : Int)) = ((x + y).toNat : Int) := by
    rw [← Int.natCast_add, wrap_u32, UInt32.toNat_add]
  show Sem.run P (pure (Value.int .u32 (IntKind.u32.wrap _))) w = _
  rw [h]; rfl
theorem U_mul : (binOp .mul t (U x) (U y)).run P w = .ok (U (x * y)) w := by
  have h : IntKind.u32.wrap ((x.toNat : Int) * (y.toNat : Int)) = ((x * y).toNat : Int) := by
    rw [← Int.natCast_mul, wrap_u32, UInt32.toNat_mul]
  show Sem.run P (pure (Value.int .u32 (IntKind.u32.wrap _))) w = _
  rw [h]; rfl
theorem ofInt32 (x : UInt32) : (BitVec.ofInt 32 (x.toNat : Int) : BitVec 32) = x.toBitVec := by
  apply BitVec.eq_of_toNat_eq
  rw [BitVec.toNat_ofInt]
  have h := x.toNat_lt
  simp
  omega
theorem U_xor : (binOp .xor t (U x) (U y)).run P w = .ok (U (x ^^^ y)) w := by
  show Sem.run P (pure (Value.int .u32 (IntKind.u32.wrap (((BitVec.ofInt 32 (x.toNat : Int) ^^^ BitVec.ofInt 32 (y.toNat : Int)) : BitVec 32).toNat : Int)))) w = _
  rw [ofInt32, ofInt32, wrap_u32, Nat.mod_eq_of_lt (x.toBitVec ^^^ y.toBitVec).isLt]; rfl
theorem U_or : (binOp .or t (U x) (U y)).run P w = .ok (U (x ||| y)) w := by
  show Sem.run P (pure (Value.int .u32 (IntKind.u32.wrap (((BitVec.ofInt 32 (x.toNat : Int) ||| BitVec.ofInt 32 (y.toNat : Int)) : BitVec 32).toNat : Int)))) w = _
  rw [ofInt32, ofInt32, wrap_u32, Nat.mod_eq_of_lt (x.toBitVec ||| y.toBitVec).isLt]; rfl
theorem U_and : (binOp .and t (U x) (U y)).run P w = .ok (U (x &&& y)) w := by
  show Sem.run P (pure (Value.int .u32 (IntKind.u32.wrap (((BitVec.ofInt 32 (x.toNat : Int) &&& BitVec.ofInt 32 (y.toNat : Int)) : BitVec 32).toNat : Int)))) w = _
  rw [ofInt32, ofInt32, wrap_u32, Nat.mod_eq_of_lt (x.toBitVec &&& y.toBitVec).isLt]; rfl
/-- Shifts by whatever a count. -/
def shl32 (x : UInt32) (n : Nat) : UInt32 := UInt32.ofNat (x.toNat * 2 ^ n)
def shr32 (x : UInt32) (n : Nat) : UInt32 := UInt32.ofNat (x.toNat / 2 ^ n)
theorem shl32_min (x : UInt32) (n : Nat) : shl32 x (min n 32) = shl32 x n := by
  by_cases h : n ≤ 32
  · rw [Nat.min_eq_left h]
  · rw [Nat.min_eq_right (by omega)]
    unfold shl32
    obtain ⟨k, rfl⟩ : ∃ k, n = 32 + k := ⟨n - 32, by omega⟩
    apply UInt32.toNat_inj.1
    rw [UInt32.toNat_ofNat', UInt32.toNat_ofNat', Nat.pow_add, ← Nat.mul_assoc]
    rw [Nat.mul_mod_left, show x.toNat * 2 ^ 32 * 2 ^ k = x.toNat * 2 ^ k * 2 ^ 32 by rw [Nat.mul_assoc, Nat.mul_comm (2 ^ 32), ← Nat.mul_assoc], Nat.mul_mod_left]
theorem shr32_min (x : UInt32) (n : Nat) : shr32 x (min n 32) = shr32 x n := by
  by_cases h : n ≤ 32
  · rw [Nat.min_eq_left h]
  · rw [Nat.min_eq_right (by omega)]
    unfold shr32
    have h1 : x.toNat < 2 ^ 32 := x.toNat_lt
    have h2 : 2 ^ 32 ≤ 2 ^ n := Nat.pow_le_pow_right (by decide) (by omega)
    rw [Nat.div_eq_of_lt h1, Nat.div_eq_of_lt (by omega)]
theorem U_shl (k : IntKind) (n : Int) (h : 0 ≤ n) : (binOp .shl t (U x) (.int k n)).run P w = .ok (U (shl32 x n.toNat)) w := by
  have h0 : ¬ n < 0 := by omega
  have e : (binOp .shl t (U x) (.int k n)) = pure (.int .u32 (IntKind.u32.wrap ((x.toNat : Int) * 2 ^ (min n.toNat 32)))) := by
    show Op.shift .shl .u32 (x.toNat : Int) k n = _
    unfold Op.shift
    rw [if_neg h0]
    rfl
  rw [e, ← shl32_min]
  have h1 : ((x.toNat : Int) * 2 ^ (min n.toNat 32)) = ((x.toNat * 2 ^ (min n.toNat 32) : Nat) : Int) := by simp
  rw [h1, wrap_u32]
  unfold shl32 U
  rw [UInt32.toNat_ofNat']
  rfl
theorem U_shr (k : IntKind) (n : Int) (h : 0 ≤ n) : (binOp .shr t (U x) (.int k n)).run P w = .ok (U (shr32 x n.toNat)) w := by
  have h0 : ¬ n < 0 := by omega
  have e : (binOp .shr t (U x) (.int k n)) = pure (.int .u32 ((x.toNat : Int).fdiv (2 ^ (min n.toNat 32)))) := by
    show Op.shift .shr .u32 (x.toNat : Int) k n = _
    unfold Op.shift
    rw [if_neg h0]
    rfl
  rw [e, ← shr32_min]
  have h1 : ((x.toNat : Int).fdiv (2 ^ (min n.toNat 32))) = ((x.toNat / 2 ^ (min n.toNat 32) : Nat) : Int) := by
    rw [Int.fdiv_eq_ediv_of_nonneg _ (by exact Int.le_of_lt (Int.pow_pos (by decide)))]
    simp
  rw [h1]
  unfold shr32 U
  rw [UInt32.toNat_ofNat', Nat.mod_eq_of_lt]
  · rfl
  · exact Nat.lt_of_le_of_lt (Nat.div_le_self _ _) x.toNat_lt
theorem U_not : (Op.unary .xor (U x)).run P w = .ok (U (~~~ x)) w := by
  show Sem.run P (pure (Value.int .u32 (IntKind.u32.wrap (((BitVec.ofInt 32 (4294967295 : Int) ^^^ BitVec.ofInt 32 (x.toNat : Int)) : BitVec 32).toNat : Int)))) w = _
  have e : (BitVec.ofInt 32 (4294967295 : Int) ^^^ x.toBitVec : BitVec 32) = ~~~ x.toBitVec := by
    rw [show (BitVec.ofInt 32 (4294967295 : Int)) = BitVec.allOnes 32 from rfl, BitVec.allOnes_xor]
  rw [ofInt32, e, wrap_u32, Nat.mod_eq_of_lt (~~~ x.toBitVec).isLt]; rfl
end

section
variable {P : Program} {w : World} {t : TypeId} (x y : UInt32)
theorem U_sub : (binOp .sub t (U x) (U y)).run P w = .ok (U (x - y)) w := by
  have h : IntKind.u32.wrap ((x.toNat : Int) - (y.toNat : Int)) = ((x - y).toNat : Int) := by
    have h1 := x.toNat_lt
    have h2 := y.toNat_lt
    rw [UInt32.toNat_sub]
    unfold IntKind.wrap
    simp [IntKind.bits, IntKind.signed]
    omega
  show Sem.run P (pure (Value.int .u32 (IntKind.u32.wrap _))) w = _
  rw [h]; rfl
theorem U_lss : (binOp .lss t (U x) (U y)).run P w = .ok (.bool (decide (x < y))) w := by
  show Sem.run P (pure (Value.bool (decide ((x.toNat : Int) < (y.toNat : Int))))) w = _
  rw [show decide ((x.toNat : Int) < (y.toNat : Int)) = decide (x < y) from decide_eq_decide.2 (by rw [UInt32.lt_iff_toNat_lt]; omega)]; rfl
theorem U_eql : (binOp .eql t (U x) (U y)).run P w = .ok (.bool (decide (x = y))) w := by
  show Sem.run P (pure (Value.bool ((x.toNat : Int) == (y.toNat : Int)))) w = _
  rw [show ((x.toNat : Int) == (y.toNat : Int)) = decide (x = y) from by rw [Bool.eq_iff_iff]; simp only [beq_iff_eq, decide_eq_true_eq]; rw [← UInt32.toNat_inj]; omega]; rfl
theorem U_neq : (binOp .neq t (U x) (U y)).run P w = .ok (.bool (!decide (x = y))) w := by
  show Sem.run P (pure (Value.bool ((x.toNat : Int) != (y.toNat : Int)))) w = _
  rw [show ((x.toNat : Int) != (y.toNat : Int)) = !decide (x = y) from by rw [bne, show ((x.toNat : Int) == (y.toNat : Int)) = decide (x = y) from by rw [Bool.eq_iff_iff]; simp only [beq_iff_eq, decide_eq_true_eq]; rw [← UInt32.toNat_inj]; omega]]; rfl
theorem U_rem (h : y ≠ 0) : (binOp .rem t (U x) (U y)).run P w = .ok (U (x % y)) w := by
  have h0 : ¬ ((y.toNat : Int) = 0) := fun e => h (UInt32.toNat_inj.1 (show y.toNat = (0 : UInt32).toNat by rw [show (0 : UInt32).toNat = 0 from rfl]; omega))
  have e : (binOp .rem t (U x) (U y)) = pure (.int .u32 ((x.toNat : Int).tmod (y.toNat : Int))) := by
    show Op.intDiv .rem .u32 (x.toNat : Int) (y.toNat : Int) = _
    unfold Op.intDiv
    rw [if_neg h0]
  rw [e, show ((x.toNat : Int).tmod (y.toNat : Int)) = ((x % y).toNat : Int) from by rw [UInt32.toNat_mod]; rfl]; rfl
theorem U_quo (h : y ≠ 0) : (binOp .quo t (U x) (U y)).run P w = .ok (U (x / y)) w := by
  have h0 : ¬ ((y.toNat : Int) = 0) := fun e => h (UInt32.toNat_inj.1 (show y.toNat = (0 : UInt32).toNat by rw [show (0 : UInt32).toNat = 0 from rfl]; omega))
  have e : (binOp .quo t (U x) (U y)) = pure (.int .u32 (IntKind.u32.wrap ((x.toNat : Int).tdiv (y.toNat : Int)))) := by
    show Op.intDiv .quo .u32 (x.toNat : Int) (y.toNat : Int) = _
    unfold Op.intDiv
    rw [if_neg h0]
  have h2 : IntKind.u32.wrap ((x.toNat : Int).tdiv (y.toNat : Int)) = ((x / y).toNat : Int) := by
    rw [UInt32.toNat_div, show ((x.toNat : Int).tdiv (y.toNat : Int)) = ((x.toNat / y.toNat : Nat) : Int) from rfl, wrap_u32, Nat.mod_eq_of_lt (Nat.lt_of_le_of_lt (Nat.div_le_self _ _) x.toNat_lt)]
  rw [e, h2]; rfl
end
theorem U_guard1 (t : TypeId) (x y : Operand) (a b : UInt32) : eqGuard .eql t x y (U a) (U b) = pure () := rfl
theorem U_guard2 (t : TypeId) (x y : Operand) (a b : UInt32) : eqGuard .neq t x y (U a) (U b) = pure () := rfl
theorem U_store {P : Program} {w : World} (a : Addr) (m : Mode) (x : UInt32) : (store a (U x) m).run P w = stored P w a (U x) m := run_store P w a _ m rfl
theorem U_one (x : UInt32) : (U x).oneCell' = true := rfl
theorem U_cells (x : UInt32) : (U x).cells = #[U x] := rfl
/-- A number that is written out. -/
theorem U_of (n : Nat) (h : n < 4294967296) : Value.int .u32 (n : Int) = U (UInt32.ofNat n) := by
  unfold U
  rw [UInt32.toNat_ofNat', Nat.mod_eq_of_lt h]

/-- A turn to the right. -/
def rotr (x : UInt32) (n : Nat) : UInt32 := shl32 x (32 - n) ||| shr32 x n
end Go.Kx
/-
  Numbers of 64 bits, unsigned, as Lean's own UInt64: what the operators tell of them. Of any program; no condition but those that each theorem states.
-/
namespace Go.Kx
open Go.RowKit

/-- A number of 64 bits. -/
def D (x : UInt64) : Value := .int .u64 (x.toNat : Int)
theorem D_def (x : UInt64) : D x = .int .u64 (x.toNat : Int) := rfl

theorem wrap_u64 (n : Nat) : IntKind.u64.wrap (n : Int) = ((n % 18446744073709551616 : Nat) : Int) := by
  unfold IntKind.wrap
  simp [IntKind.bits, IntKind.signed]

section
variable {P : Program} {w : World} {t : TypeId} (x y : UInt64)
theorem D_add : (binOp .add t (D x) (D y)).run P w = .ok (D (x + y)) w := by
  have h : IntKind.u64.wrap ((x.toNat : Int) + (y.toNat : Int)) = ((x + y).toNat : Int) := by
    rw [← Int.natCast_add, wrap_u64, UInt64.toNat_add]
  show Sem.run P (pure (Value.int .u64 (IntKind.u64.wrap _))) w = _
  rw [h]; rfl
theorem D_mul : (binOp .mul t (D x) (D y)).run P w = .ok (D (x * y)) w := by
  have h : IntKind.u64.wrap ((x.toNat : Int) * (y.toNat : Int)) = ((x * y).toNat : Int) := by
    rw [← Int.natCast_mul, wrap_u64, UInt64.toNat_mul]
  show Sem.run P (pure (Value.int .u64 (IntKind.u64.wrap _))) w = _
  rw [h]; rfl
theorem ofInt64 (x : UInt64) : (BitVec.ofInt 64 (x.toNat : Int) : BitVec 64) = x.toBitVec := by
  apply BitVec.eq_of_toNat_eq
  rw [BitVec.toNat_ofInt]
  have h := x.toNat_lt
  simp
  omega
theorem D_xor : (binOp .xor t (D x) (D y)).run P w = .ok (D (x ^^^ y)) w := by
  show Sem.run P (pure (Value.int .u64 (IntKind.u64.wrap (((BitVec.ofInt 64 (x.toNat : Int) ^^^ BitVec.ofInt 64 (y.toNat : Int)) : BitVec 64).toNat : Int)))) w = _
  rw [ofInt64, ofInt64, wrap_u64, Nat.mod_eq_of_lt (x.toBitVec ^^^ y.toBitVec).isLt]; rfl
theorem D_or : (binOp .or t (D x) (D y)).run P w = .ok (D (x ||| y)) w := by
  show Sem.run P (pure (Value.int .u64 (IntKind.u64.wrap (((BitVec.ofInt 64 (x.toNat : Int) ||| BitVec.ofInt 64 (y.toNat : Int)) : BitVec 64).toNat : Int)))) w = _
  rw [ofInt64, ofInt64, wrap_u64, Nat.mod_eq_of_lt (x.toBitVec ||| y.toBitVec).isLt]; rfl
theorem D_and : (binOp .and t (D x) (D y)).run P w = .ok (D (x &&& y)) w := by
  show Sem.run P (pure (Value.int .u64 (IntKind.u64.wrap (((BitVec.ofInt 64 (x.toNat : Int) &&& BitVec.ofInt 64 (y.toNat : Int)) : BitVec 64).toNat : Int)))) w = _
  rw [ofInt64, ofInt64, wrap_u64, Nat.mod_eq_of_lt (x.toBitVec &&& y.toBitVec).isLt]; rfl
/-- Shifts by whatever a count. -/
def shl64 (x : UInt64) (n : Nat) : UInt64 := UInt64.ofNat (x.toNat * 2 ^ n)
def shr64 (x : UInt64) (n : Nat) : UInt64 := UInt64.ofNat (x.toNat / 2 ^ n)
theorem shl64_min (x : UInt64) (n : Nat) : shl64 x (min n 64) = shl64 x n := by
  by_cases h : n ≤ 64
  · rw [Nat.min_eq_left h]
  · rw [Nat.min_eq_right (by omega)]
    unfold shl64
    obtain ⟨k, rfl⟩ : ∃ k, n = 64 + k := ⟨n - 64, by omega⟩
    apply UInt64.toNat_inj.1
    rw [UInt64.toNat_ofNat', UInt64.toNat_ofNat', Nat.pow_add, ← Nat.mul_assoc]
    rw [Nat.mul_mod_left, show x.toNat * 2 ^ 64 * 2 ^ k = x.toNat * 2 ^ k * 2 ^ 64 by rw [Nat.mul_assoc, Nat.mul_comm (2 ^ 64), ← Nat.mul_assoc], Nat.mul_mod_left]
theorem shr64_min (x : UInt64) (n : Nat) : shr64 x (min n 64) = shr64 x n := by
  by_cases h : n ≤ 64
  · rw [Nat.min_eq_left h]
  · rw [Nat.min_eq_right (by omega)]
    unfold shr64
    have h1 : x.toNat < 2 ^ 64 := x.toNat_lt
    have h2 : 2 ^ 64 ≤ 2 ^ n := Nat.pow_le_pow_right (by decide) (by omega)
    rw [Nat.div_eq_of_lt h1, Nat.div_eq_of_lt (by omega)]
theorem D_shl (k : IntKind) (n : Int) (h : 0 ≤ n) : (binOp .shl t (D x) (.int k n)).run P w = .ok (D (shl64 x n.toNat)) w := by
  have h0 : ¬ n < 0 := by omega
  have e : (binOp .shl t (D x) (.int k n)) = pure (.int .u64 (IntKind.u64.wrap ((x.toNat : Int) * 2 ^ (min n.toNat 64)))) := by
    show Op.shift .shl .u64 (x.toNat : Int) k n = _
    unfold Op.shift
    rw [if_neg h0]
    rfl
  rw [e, ← shl64_min]
  have h1 : ((x.toNat : Int) * 2 ^ (min n.toNat 64)) = ((x.toNat * 2 ^ (min n.toNat 64) : Nat) : Int) := by simp
  rw [h1, wrap_u64]
  unfold shl64 D
  rw [UInt64.toNat_ofNat']
  rfl
theorem D_shr (k : IntKind) (n : Int) (h : 0 ≤ n) : (binOp .shr t (D x) (.int k n)).run P w = .ok (D (shr64 x n.toNat)) w := by
  have h0 : ¬ n < 0 := by omega
  have e : (binOp .shr t (D x) (.int k n)) = pure (.int .u64 ((x.toNat : Int).fdiv (2 ^ (min n.toNat 64)))) := by
    show Op.shift .shr .u64 (x.toNat : Int) k n = _
    unfold Op.shift
    rw [if_neg h0]
    rfl
  rw [e, ← shr64_min]
  have h1 : ((x.toNat : Int).fdiv (2 ^ (min n.toNat 64))) = ((x.toNat / 2 ^ (min n.toNat 64) : Nat) : Int) := by
    rw [Int.fdiv_eq_ediv_of_nonneg _ (by exact Int.le_of_lt (Int.pow_pos (by decide)))]
    simp
  rw [h1]
  unfold shr64 D
  rw [UInt64.toNat_ofNat', Nat.mod_eq_of_lt]
  · rfl
  · exact Nat.lt_of_le_of_lt (Nat.div_le_self _ _) x.toNat_lt
theorem D_not : (Op.unary .xor (D x)).run P w = .ok (D (~~~ x)) w := by
  show Sem.run P (pure (Value.int .u64 (IntKind.u64.wrap (((BitVec.ofInt 64 (18446744073709551615 : Int) ^^^ BitVec.ofInt 64 (x.toNat : Int)) : BitVec 64).toNat : Int)))) w = _
  have e : (BitVec.ofInt 64 (18446744073709551615 : Int) ^^^ x.toBitVec : BitVec 64) = ~~~ x.toBitVec := by
    rw [show (BitVec.ofInt 64 (18446744073709551615 : Int)) = BitVec.allOnes 64 from rfl, BitVec.allOnes_xor]
  rw [ofInt64, e, wrap_u64, Nat.mod_eq_of_lt (~~~ x.toBitVec).isLt]; rfl
end

section
variable {P : Program} {w : World} {t : TypeId} (x y : UInt64)
theorem D_sub : (binOp .sub t (D x) (D y)).run P w = .ok (D (x - y)) w := by
  have h : IntKind.u64.wrap ((x.toNat : Int) - (y.toNat : Int)) = ((x - y).toNat : Int) := by
    have h1 := x.toNat_lt
    have h2 := y.toNat_lt
    rw [UInt64.toNat_sub]
    unfold IntKind.wrap
    simp [IntKind.bits, IntKind.signed]
    omega
  show Sem.run P (pure (Value.int .u64 (IntKind.u64.wrap _))) w = _
  rw [h]; rfl
theorem D_lss : (binOp .lss t (D x) (D y)).run P w = .ok (.bool (decide (x < y))) w := by
  show Sem.run P (pure (Value.bool (decide ((x.toNat : Int) < (y.toNat : Int))))) w = _
  rw [show decide ((x.toNat : Int) < (y.toNat : Int)) = decide (x < y) from decide_eq_decide.2 (by rw [UInt64.lt_iff_toNat_lt]; omega)]; rfl
theorem D_eql : (binOp .eql t (D x) (D y)).run P w = .ok (.bool (decide (x = y))) w := by
  show Sem.run P (pure (Value.bool ((x.toNat : Int) == (y.toNat : Int)))) w = _
  rw [show ((x.toNat : Int) == (y.toNat : Int)) = decide (x = y) from by rw [Bool.eq_iff_iff]; simp only [beq_iff_eq, decide_eq_true_eq]; rw [← UInt64.toNat_inj]; omega]; rfl
theorem D_neq : (binOp .neq t (D x) (D y)).run P w = .ok (.bool (!decide (x = y))) w := by
  show Sem.run P (pure (Value.bool ((x.toNat : Int) != (y.toNat : Int)))) w = _
  rw [show ((x.toNat : Int) != (y.toNat : Int)) = !decide (x = y) from by rw [bne, show ((x.toNat : Int) == (y.toNat : Int)) = decide (x = y) from by rw [Bool.eq_iff_iff]; simp only [beq_iff_eq, decide_eq_true_eq]; rw [← UInt64.toNat_inj]; omega]]; rfl
theorem D_rem (h : y ≠ 0) : (binOp .rem t (D x) (D y)).run P w = .ok (D (x % y)) w := by
  have h0 : ¬ ((y.toNat : Int) = 0) := fun e => h (UInt64.toNat_inj.1 (show y.toNat = (0 : UInt64).toNat by rw [show (0 : UInt64).toNat = 0 from rfl]; omega))
  have e : (binOp .rem t (D x) (D y)) = pure (.int .u64 ((x.toNat : Int).tmod (y.toNat : Int))) := by
    show Op.intDiv .rem .u64 (x.toNat : Int) (y.toNat : Int) = _
    unfold Op.intDiv
    rw [if_neg h0]
  rw [e, show ((x.toNat : Int).tmod (y.toNat : Int)) = ((x % y).toNat : Int) from by rw [UInt64.toNat_mod]; rfl]; rfl
theorem D_quo (h : y ≠ 0) : (binOp .quo t (D x) (D y)).run P w = .ok (D (x / y)) w := by
  have h0 : ¬ ((y.toNat : Int) = 0) := fun e => h (UInt64.toNat_inj.1 (show y.toNat = (0 : UInt64).toNat by rw [show (0 : UInt64).toNat = 0 from rfl]; omega))
  have e : (binOp .quo t (D x) (D y)) = pure (.int .u64 (IntKind.u64.wrap ((x.toNat : Int).tdiv (y.toNat : Int)))) := by
    show Op.intDiv .quo .u64 (x.toNat : Int) (y.toNat : Int) = _
    unfold Op.intDiv
    rw [if_neg h0]
  have h2 : IntKind.u64.wrap ((x.toNat : Int).tdiv (y.toNat : Int)) = ((x / y).toNat : Int) := by
    rw [UInt64.toNat_div, show ((x.toNat : Int).tdiv (y.toNat : Int)) = ((x.toNat / y.toNat : Nat) : Int) from rfl, wrap_u64, Nat.mod_eq_of_lt (Nat.lt_of_le_of_lt (Nat.div_le_self _ _) x.toNat_lt)]
  rw [e, h2]; rfl
end
theorem D_guard1 (t : TypeId) (x y : Operand) (a b : UInt64) : eqGuard .eql t x y (D a) (D b) = pure () := rfl
theorem D_guard2 (t : TypeId) (x y : Operand) (a b : UInt64) : eqGuard .neq t x y (D a) (D b) = pure () := rfl
theorem D_store {P : Program} {w : World} (a : Addr) (m : Mode) (x : UInt64) : (store a (D x) m).run P w = stored P w a (D x) m := run_store P w a _ m rfl
theorem D_one (x : UInt64) : (D x).oneCell' = true := rfl
theorem D_cells (x : UInt64) : (D x).cells = #[D x] := rfl
/-- A number that is written out. -/
theorem D_of (n : Nat) (h : n < 18446744073709551616) : Value.int .u64 (n : Int) = D (UInt64.ofNat n) := by
  unfold D
  rw [UInt64.toNat_ofNat', Nat.mod_eq_of_lt h]

/-- A turn to the right, of 64 bits. -/
def rotr64 (x : UInt64) (n : Nat) : UInt64 := shl64 x (64 - n) ||| shr64 x n
end Go.Kx
