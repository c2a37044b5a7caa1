/-
  Messages side by side: which of a row can be put, their bytes, their cells, and what is left behind so many. Conditions: those of each theorem.
-/
import Derived.Test.YtkgeecejgpekkaaMsgPure
import Derived.Test.YtkgeecejgpekkaaOpen
namespace Go.Proofs.Ytkgeecejgpekkaa
open Go.RowKit Go.Kx

/-- What the walk is told of a row of messages. -/
def IsMsgs (w : World) (a : Option Addr) (len cap : Nat) : Prop :=
  (a = none ∧ len = 0 ∧ cap = 0) ∨
  ∃ (x : Addr) (k : Nat → Int) (A : Nat → Option Addr) (L C : Nat → Nat) (Z : Nat → List Int), a = some x ∧ len ≤ cap ∧ cap ≤ maxLen ∧
    ∀ r, r < len → w.cell? (x.add (r * 2)) = some (.int .i64 (k r)) ∧ w.cell? (x.add (r * 2 + 1)) = some (.slice (A r) (L r) (C r)) ∧ IsRow .u8 w (A r) (L r) (C r) (Z r)

/-- One message of the row, in our words. -/
structure MsgAt (w : World) (b o r : Nat) (k : Int) (l : List UInt8) (q : Option Addr) (n c : Nat) : Prop where
  c0 : w.cell? ⟨b, o + r * 2, none⟩ = some (.int .i64 k)
  c1 : w.cell? ⟨b, o + (r * 2 + 1), none⟩ = some (.slice q n c)
  rd : Rd w (· < w.heap.size) q l
  len : l.length = n
  le : n ≤ c
  most : c ≤ maxLen
  nil : q = none → c = 0

theorem open_msgs {w : World} {a : Option Addr} {len cap : Nat} (h : IsMsgs w a len cap) :
    ∃ (k : Nat → Int) (F : Nat → List UInt8) (Q : Nat → Option Addr) (N C : Nat → Nat), ∀ r, r < len → ∃ b o, a = some ⟨b, o, none⟩ ∧ len ≤ cap ∧ cap ≤ maxLen ∧ MsgAt w b o r (k r) (F r) (Q r) (N r) (C r) := by
  rcases h with ⟨_, h, _⟩ | ⟨⟨b, o, sp⟩, k, A, L, C, Z, rfl, h1, h2, h3⟩
  · exact ⟨fun _ => 0, fun _ => [], fun _ => none, fun _ => 0, fun _ => 0, fun r hr => by omega⟩
  · have key : ∀ r : Nat, ∃ l : List UInt8, r < len → (Rd w (· < w.heap.size) (A r) l ∧ l.length = L r ∧ L r ≤ C r ∧ C r ≤ maxLen ∧ (A r = none → C r = 0)) := by
      intro r
      by_cases hr : r < len
      · obtain ⟨l, e⟩ := open_bytes (h3 r hr).2.2
        exact ⟨l, fun _ => e⟩
      · exact ⟨[], fun h => absurd h hr⟩
    obtain ⟨F, hF⟩ := Classical.axiomOfChoice key
    refine ⟨k, F, A, L, C, fun r hr => ?_⟩
    have hsp : sp = none := by
      have := World.cell?_spot (h3 0 (by omega)).1
      simpa [Addr.add] using this
    subst hsp
    have ha : ∀ j, (⟨b, o, none⟩ : Addr).add j = ⟨b, o + j, none⟩ := by intro j; unfold Addr.add; split <;> simp_all
    obtain ⟨c0, c1, _⟩ := h3 r hr
    rw [ha] at c0 c1
    obtain ⟨e1, e2, e3, e4, e5⟩ := hF r hr
    exact ⟨b, o, rfl, h1, h2, ⟨c0, c1, e1, e2, e3, e4, e5⟩⟩

/-- May the message be put? -/
def okM (k : Nat → Int) (F : Nat → List UInt8) (r : Nat) : Prop := (0 ≤ k r ∧ k r < 256) ∧ (F r).length ≤ 2048
instance (k : Nat → Int) (F : Nat → List UInt8) (r : Nat) : Decidable (okM k F r) := by unfold okM; infer_instance
/-- Those that may, of the first i. -/
def vs (k : Nat → Int) (F : Nat → List UInt8) (i : Nat) : List Nat := (List.range i).filter fun r => decide (okM k F r)
/-- The bytes of so many; their cells. -/
def allB (k : Nat → Int) (F : Nat → List UInt8) (l : List Nat) : List UInt8 := (l.map fun r => msgB (k r).toNat (F r)).flatten
def cellsB (k : Nat → Int) (Q : Nat → Option Addr) (N C : Nat → Nat) (l : List Nat) : List Value := (l.map fun r => [Value.int .i64 (k r), Value.slice (Q r) (N r) (C r)]).flatten

theorem vs_yes {k : Nat → Int} {F : Nat → List UInt8} {i : Nat} (h : okM k F i) : vs k F (i + 1) = vs k F i ++ [i] := by unfold vs; rw [List.range_succ, List.filter_append]; simp [h]
theorem vs_no {k : Nat → Int} {F : Nat → List UInt8} {i : Nat} (h : ¬ okM k F i) : vs k F (i + 1) = vs k F i := by unfold vs; rw [List.range_succ, List.filter_append]; simp [h]
theorem vs_mem {k : Nat → Int} {F : Nat → List UInt8} {i r : Nat} (h : r ∈ vs k F i) : r < i ∧ okM k F r := by unfold vs at h; simpa using h
theorem vs_len (k : Nat → Int) (F : Nat → List UInt8) (i : Nat) : (vs k F i).length ≤ i := by unfold vs; have := List.length_filter_le (fun r => decide (okM k F r)) (List.range i); simpa using this
theorem allB_snoc (k : Nat → Int) (F : Nat → List UInt8) (l : List Nat) (i : Nat) : allB k F (l ++ [i]) = allB k F l ++ msgB (k i).toNat (F i) := by simp [allB]
theorem allB_cons (k : Nat → Int) (F : Nat → List UInt8) (l : List Nat) (i : Nat) : allB k F (i :: l) = msgB (k i).toNat (F i) ++ allB k F l := by simp [allB]
theorem cellsB_snoc (k : Nat → Int) (Q : Nat → Option Addr) (N C : Nat → Nat) (l : List Nat) (i : Nat) : cellsB k Q N C (l ++ [i]) = cellsB k Q N C l ++ [.int .i64 (k i), .slice (Q i) (N i) (C i)] := by simp [cellsB]
theorem cellsB_at (k : Nat → Int) (Q : Nat → Option Addr) (N C : Nat → Nat) (l : List Nat) (j : Nat) (h : j < l.length) : (cellsB k Q N C l)[j * 2]? = some (.int .i64 (k l[j])) ∧ (cellsB k Q N C l)[j * 2 + 1]? = some (.slice (Q l[j]) (N l[j]) (C l[j])) := by
  induction l generalizing j with
  | nil => simp at h
  | cons a t ih =>
    cases j with
    | zero => simp [cellsB]
    | succ j =>
      have := ih j (by simpa using h)
      have e : cellsB k Q N C (a :: t) = [.int .i64 (k a), .slice (Q a) (N a) (C a)] ++ cellsB k Q N C t := by simp [cellsB]
      rw [e, show (j + 1) * 2 = j * 2 + 2 by omega]
      constructor
      · rw [List.getElem?_append_right (by simp)]; simpa using this.1
      · rw [List.getElem?_append_right (by simp)]; simpa using this.2
theorem allB_le (k : Nat → Int) (F : Nat → List UInt8) (l : List Nat) (h : ∀ r ∈ l, okM k F r) : (allB k F l).length ≤ l.length * 2052 := by
  induction l with
  | nil => simp [allB]
  | cons a t ih =>
    rw [allB_cons, List.length_append, msgB_length, List.length_cons]
    have h1 := ih (fun r hr => h r (List.mem_cons_of_mem _ hr))
    have h2 := (h a (List.mem_cons_self)).2
    omega
/-- What is taken of what is left. -/
theorem allB_take {k : Nat → Int} {F : Nat → List UInt8} {l : List Nat} {j : Nat} (hj : j < l.length) (h : ∀ r ∈ l, okM k F r) :
    takeM (allB k F (l.drop j)) = ((k l[j]).toNat, F l[j], allB k F (l.drop (j + 1)), true, 0) ∧ (((k l[j]).toNat : Nat) : Int) = k l[j] := by
  have ho := h l[j] (List.getElem_mem _)
  rw [List.drop_eq_getElem_cons hj, allB_cons]
  have hk : (k l[j]).toNat < 256 := by have := ho.1; omega
  exact ⟨takeM_full hk ho.2, by have := ho.1; omega⟩
end Go.Proofs.Ytkgeecejgpekkaa
