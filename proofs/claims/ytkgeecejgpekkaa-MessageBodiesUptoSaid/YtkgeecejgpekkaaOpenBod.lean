/-
  How the chain and the ticket that are handed over to MessageBodies read in the words of the walk, and what the bound on what comes in gives. No condition.
-/
import Derived.Test.YtkgeecejgpekkaaLawMB
import Derived.Test.YtkgeecejgpekkaaOpen
import Derived.OpenShut
import Derived.WalkKit
import Derived.ProofKit
import Derived.Deep.Matrix
namespace Go.Proofs.Ytkgeecejgpekkaa
open Go.RowKit Go.Kx Go.Deep Go.ChangeShapes Go.WideShapes Go.ChangeAt
set_option linter.unusedVariables false
set_option linter.unusedSimpArgs false

/-! ### The bound -/
theorem bulk_one {H : Type} (d : DataW H) : 1 ≤ Rows.uptoBulk d := by
  cases d with
  | lit l => cases l <;> simp [Rows.uptoBulk]
  | nil => simp [Rows.uptoBulk]
  | ptr d => simp [Rows.uptoBulk]
  | slice elems spare => simp [Rows.uptoBulk]
  | agg parts => simp [Rows.uptoBulk]
  | iface t d => simp [Rows.uptoBulk]
  | map entries => simp [Rows.uptoBulk]
  | held h => simp [Rows.uptoBulk]
theorem bulk_part {H : Type} {d : DataW H} {l : List (DataW H)} (h : d ∈ l) : Rows.uptoBulk d ≤ Rows.uptoBulkAll l := by
  induction l with
  | nil => cases h
  | cons x r ih =>
    simp only [Rows.uptoBulkAll]
    cases List.mem_cons.1 h with
    | inl e => subst e; omega
    | inr e => have := ih e; omega
theorem bulk_app {H : Type} (l r : List (DataW H)) : Rows.uptoBulkAll (l ++ r) = Rows.uptoBulkAll l + Rows.uptoBulkAll r := by
  induction l with
  | nil => simp [Rows.uptoBulkAll]
  | cons x l ih => simp only [List.cons_append, Rows.uptoBulkAll, ih]; omega
theorem bulk_len {H : Type} (l : List (DataW H)) : l.length ≤ Rows.uptoBulkAll l := by
  induction l with
  | nil => simp [Rows.uptoBulkAll]
  | cons x r ih => have := bulk_one x; simp only [Rows.uptoBulkAll, List.length_cons]; omega
theorem bulk_row {H : Type} {k : IntKind} {A : Option Addr} {L : Nat} {zs : List Int} (hA : A = none → L = 0) (hL : L ≤ zs.length) : L + 1 ≤ Rows.uptoBulk (intRow (H := H) k A L zs) := by
  cases A with
  | none => have := hA rfl; subst this; simp [intRow, Rows.uptoBulk]
  | some a =>
    simp only [intRow, Rows.uptoBulk]
    have := bulk_len (lits (H := H) k (zs.take L))
    simp only [lits, List.length_map, List.length_take] at this
    simp only [lits]
    omega
theorem bulk_tot {H : Type} (f : Nat → List UInt8) (D : Nat → DataW H) : ∀ n : Nat, (∀ i, i < n → (f i).length + 1 ≤ Rows.uptoBulk (D i)) → tot ((List.range n).map f) ≤ 8 * Rows.uptoBulkAll ((List.range n).map D) := by
  have tot_app : ∀ a b : List (List UInt8), tot (a ++ b) = tot a + tot b := by
    intro a b
    induction a with
    | nil => simp [tot]
    | cons x r ih => simp only [List.cons_append, tot, ih]; omega
  intro n
  induction n with
  | zero => intro _; simp [tot]
  | succ n ih =>
    intro h
    have h1 := ih fun i hi => h i (by omega)
    have h2 := h n (by omega)
    simp only [List.range_succ, List.map_append, List.map_cons, List.map_nil, tot_app, bulk_app, tot, Rows.uptoBulkAll]
    omega

/-! ### The chain -/
def IsChain (w : World) (a : Option Addr) (len cap m : Nat) : Prop := ∃ l, Ch w a len l ∧ len ≤ cap ∧ cap ≤ maxLen ∧ tot l ≤ 8 * m
theorem chain_of {H : Type} {enc : TypeId × Value → H} {w : World} {fuel : Nat} {a : Option Addr} {len cap : Nat} {x : DataW H × List MemPlace}
    (hf : DataW.trod enc Try.prog w 0 (fun _ => true) true fuel 40 (Value.slice a len cap).cells.toList = some x) :
    IsChain w a len cap (Rows.uptoBulk x.1) := by
  rcases open_int_rows Try.underlying40 Try.underlying23 Try.underlying5 (by kernel_rfl) (by kernel_rfl) hf with ⟨hcs, rfl⟩ | ⟨y, l, c, A, L, C, Z, hcs, _, hl, hm, rfl, hcell⟩
  · simp [Value.cells] at hcs
    obtain ⟨rfl, rfl, rfl⟩ := hcs
    exact ⟨[], ⟨rfl, fun i hi => absurd hi (by simp)⟩, Nat.le_refl _, by simp [maxLen], by simp [tot]⟩
  · simp [Value.cells] at hcs
    obtain ⟨rfl, rfl, rfl⟩ := hcs
    have key : ∀ r : Nat, ∃ b : List UInt8, r < len → Rd w (fun _ => True) (A r) b ∧ b.length = L r ∧ (A r = none → C r = 0) := by
      intro r
      by_cases hr : r < len
      · obtain ⟨q1, q2, q3, q4, q5, q6, q7⟩ := hcell r (by omega)
        have hrow : IsRow .u8 w (A r) (L r) (C r) (Z r) := by
          cases hA : A r with
          | none =>
            have hc := q6 hA
            rw [hc] at q4 q2
            exact .inl ⟨rfl, by omega, hc, List.length_eq_zero_iff.1 q4⟩
          | some a' => exact .inr ⟨a', rfl, q2, q3, q4, fun i hi => (q7 a' hA).2 i (by omega), q5⟩
        obtain ⟨b, h1, h2, h3, h4, h5⟩ := open_bytes hrow
        exact ⟨b, fun _ => ⟨h1.mono (fun _ _ _ => trivial), h2, h5⟩⟩
      · exact ⟨[], fun h => absurd h hr⟩
    obtain ⟨f, hq⟩ := Classical.axiomOfChoice key
    refine ⟨(List.range len).map f, ⟨by simp, fun i hi => ?_⟩, hl, hm, ?_⟩
    · rw [List.length_map, List.length_range] at hi
      obtain ⟨q1, _⟩ := hcell i (by omega)
      have hy : y.spot = none := by simpa [Addr.add] using World.cell?_spot (hcell 0 (by omega)).1
      obtain ⟨b, o, s⟩ := y
      obtain rfl : s = none := hy
      obtain ⟨h1, h2, h3⟩ := hq i hi
      have e : (⟨b, o, none⟩ : Addr).add i = ⟨b, o + i, none⟩ := by unfold Addr.add; split <;> simp_all
      rw [e] at q1
      exact ⟨b, o, A i, L i, C i, rfl, q1, by simpa using h1, by simpa using h2, h3⟩
    · have h := bulk_tot f (fun r => intRow (H := H) .u8 (A r) (L r) (Z r)) len fun i hi => by
        obtain ⟨q1, q2, q3, q4, q5, q6, q7⟩ := hcell i (by omega)
        obtain ⟨h1, h2, h3⟩ := hq i hi
        have := bulk_row (H := H) (k := .u8) (A := A i) (L := L i) (zs := Z i) (fun e => by have := q6 e; omega) (by omega)
        omega
      simp only [Rows.uptoBulk]
      omega

/-! ### The ticket -/
theorem take_one {cs : List Value} {o : Nat} {v : Value} (h : (cs.drop o).take 1 = [v]) : cs[o]? = some v := by
  have := congrArg (fun l => l[0]?) h
  simpa using this
theorem one_int {H : Type} {enc : TypeId × Value → H} {w : World} {fuel : Nat} {cs : List Value} {o : Nat} {x : DataW H × List MemPlace}
    (h : DataW.trod enc Try.prog w 0 (fun _ => true) true fuel 3 ((cs.drop o).take 1) = some x) : ∃ n : Int, cs[o]? = some (.int .i64 n) := by
  obtain ⟨n, hn, _⟩ := DataW.trod_int Try.underlying3 h
  exact ⟨n, take_one hn⟩
theorem one_bytes {H : Type} {enc : TypeId × Value → H} {w : World} {fuel : Nat} {cs : List Value} {o : Nat} {x : DataW H × List MemPlace}
    (h : DataW.trod enc Try.prog w 0 (fun _ => true) true fuel 23 ((cs.drop o).take 1) = some x) : ∃ (p : Option Addr) (n c : Nat) (l : List UInt8), cs[o]? = some (.slice p n c) ∧ Rd w (fun _ => True) p l ∧ l.length = n ∧ (p = none → c = 0) ∧ n + 1 ≤ Rows.uptoBulk x.1 := by
  rcases open_ints Try.underlying23 Try.underlying5 (by kernel_rfl) h with ⟨hcs, rfl⟩ | ⟨y, l, c, zs, hcs, _, hl, hm, hz, rfl, hcell, hwz⟩
  · exact ⟨none, 0, 0, [], take_one hcs, Rd.nil _ _ _, rfl, fun _ => rfl, by simp [Rows.uptoBulk]⟩
  · have hz' : zs.length = c := by simpa using hz
    have hr : IsRow .u8 w (some y) l c zs := .inr ⟨y, rfl, hl, hm, hz', hcell, hwz⟩
    obtain ⟨b, h1, h2, h3, h4, h5⟩ := open_bytes hr
    refine ⟨some y, l, c, b, take_one hcs, h1.mono (fun _ _ _ => trivial), h2, h5, ?_⟩
    have := bulk_len (lits (H := H) .u8 (zs.take l))
    simp only [lits, List.length_map, List.length_take] at this
    simp only [Rows.uptoBulk, lits]
    omega
def IsNew (w : World) (C : Array Value) (m : Nat) : Prop := ∃ (li ad : Int) (p1 p2 : Option Addr) (n1 c1 n2 c2 : Nat) (no tk : List UInt8), C = #[.int .i64 li, .int .i64 ad, .slice p1 n1 c1, .slice p2 n2 c2] ∧
  Rd w (fun _ => True) p1 no ∧ no.length = n1 ∧ (p1 = none → c1 = 0) ∧ Rd w (fun _ => True) p2 tk ∧ tk.length = n2 ∧ (p2 = none → c2 = 0) ∧ n1 + n2 ≤ m
theorem new_of {H : Type} {enc : TypeId × Value → H} {w : World} {fuel : Nat} {C : Array Value} {x : DataW H × List MemPlace}
    (hsz : C.size = Try.prog.cellsOf 42) (hf : DataW.trod enc Try.prog w 0 (fun _ => true) true fuel 42 (Value.agg C).cells.toList = some x) : IsNew w C (Rows.uptoBulk x.1) := by
  rw [show Try.prog.cellsOf 42 = 4 from by kernel_rfl] at hsz
  obtain ⟨xs, n, _, rfl, _, hxl, hel⟩ := DataW.trod_struct Try.underlying42 hf
  have hxl' : xs.length = 4 := hxl
  have g0 : DataW.trod enc Try.prog w 0 (fun _ => true) true n 3 (((Value.agg C).cells.toList.drop 0).take (Try.prog.cellsOf 3)) = xs[0]? := hel 0 _ rfl
  have g1 : DataW.trod enc Try.prog w 0 (fun _ => true) true n 3 (((Value.agg C).cells.toList.drop 1).take (Try.prog.cellsOf 3)) = xs[1]? := hel 1 _ rfl
  have g2 : DataW.trod enc Try.prog w 0 (fun _ => true) true n 23 (((Value.agg C).cells.toList.drop 2).take (Try.prog.cellsOf 23)) = xs[2]? := hel 2 _ rfl
  have g3 : DataW.trod enc Try.prog w 0 (fun _ => true) true n 23 (((Value.agg C).cells.toList.drop 3).take (Try.prog.cellsOf 23)) = xs[3]? := hel 3 _ rfl
  simp only [show Try.prog.cellsOf 3 = 1 from by kernel_rfl, show Try.prog.cellsOf 23 = 1 from by kernel_rfl] at g0 g1 g2 g3
  obtain ⟨y0, y1, y2, y3, rfl⟩ : ∃ a b c d, xs = [a, b, c, d] := by
    match xs, hxl' with
    | [a, b, c, d], _ => exact ⟨a, b, c, d, rfl⟩
  simp only [List.getElem?_cons_zero, List.getElem?_cons_succ] at g0 g1 g2 g3
  obtain ⟨li, k0⟩ := one_int g0
  obtain ⟨ad, k1⟩ := one_int g1
  obtain ⟨p1, n1, c1, no, k2, a1, a2, a3, a4⟩ := one_bytes g2
  obtain ⟨p2, n2, c2, tk, k3, b1, b2, b3, b4⟩ := one_bytes g3
  simp only [Value.cells, Array.getElem?_toList] at k0 k1 k2 k3
  refine ⟨li, ad, p1, p2, n1, c1, n2, c2, no, tk, ?_, a1, a2, a3, b1, b2, b3, ?_⟩
  · obtain ⟨l⟩ := C
    have hl : l.length = 4 := hsz
    match l, hl with
    | [a, b, c, d], _ =>
      simp only [List.getElem?_toArray, List.getElem?_cons_zero, List.getElem?_cons_succ, Option.some.injEq] at k0 k1 k2 k3
      subst k0 k1 k2 k3
      rfl
  · simp only [List.map_cons, List.map_nil, Rows.uptoBulk, Rows.uptoBulkAll]
    omega
end Go.Proofs.Ytkgeecejgpekkaa
