/-
  Plain laws on worlds and on byte slices: which blocks a call may have changed; bytes that lie somewhere; rows of the call's own, and append onto them. Of any program; no condition but those that each theorem states.
-/
import Derived.WalkKit
import Derived.WalkSpells
import Derived.WalkLawsBesides
import Derived.Laws.AppendOwnNone
import Derived.Lib.Hide
import Derived.Deep.QuietTactic
import Derived.BigQuiet
import Derived.Deep.RegionHeld3
import Derived.Deep.DeepCutAuto
import Derived.StillTailTactics
import Derived.Deep.RegionLaw
import Derived.Test.YtolgaapiedbkfaaGreatRows
import Derived.Lib.AppendZerosOnto
import Derived.ProofKit
namespace Go.Kx
open Go.RowKit

/-- A byte as a cell. -/
abbrev B8 (b : UInt8) : Value := .int .u8 (b.toNat : Int)

/-! ### Worlds: which blocks may have changed -/

/-- From w to w' of the blocks that lay there only those of which r says yes may have changed. -/
structure Only (r : Nat → Prop) (w w' : World) : Prop where
  os : w'.os = w.os
  tape : w'.tape = w.tape
  output : w'.output = w.output
  size : w.heap.size ≤ w'.heap.size
  block : ∀ k, k < w.heap.size → ¬ r k → w'.heap[k]? = w.heap[k]?

theorem Only.refl (r : Nat → Prop) (w : World) : Only r w w := ⟨rfl, rfl, rfl, Nat.le_refl _, fun _ _ _ => rfl⟩
theorem Only.trans {r s t : Nat → Prop} {a b c : World} (h : Only r a b) (k : Only s b c) (h1 : ∀ x, r x → t x) (h2 : ∀ x, x < a.heap.size → s x → t x) : Only t a c :=
  ⟨k.os.trans h.os, k.tape.trans h.tape, k.output.trans h.output, Nat.le_trans h.size k.size, fun x hx hn =>
    (k.block x (Nat.lt_of_lt_of_le hx h.size) (fun e => hn (h2 x hx e))).trans (h.block x hx (fun e => hn (h1 x e)))⟩
theorem Only.then {r : Nat → Prop} {a b c : World} (h : Only r a b) (k : Only r b c) : Only r a c := h.trans k (fun _ h => h) (fun _ _ h => h)
theorem Only.mono {r s : Nat → Prop} {w w' : World} (h : Only r w w') (hs : ∀ x, x < w.heap.size → r x → s x) : Only s w w' :=
  ⟨h.os, h.tape, h.output, h.size, fun k hk hn => h.block k hk (fun e => hn (hs k hk e))⟩
theorem Only.of_below {r : Nat → Prop} {w w' : World} (h : Below w.heap.size w w') : Only r w w' := ⟨h.os, h.tape, h.output, h.size, fun k hk _ => h.block k hk⟩
theorem Only.of_grown {w w' : World} {g : Option Nat} (h : w.grownBy w' g) : Only (fun k => some k = g) w w' := ⟨h.os, h.tape, h.output, h.size, fun k hk hn => h.block k hk hn⟩
theorem Only.below {r : Nat → Prop} {w w' : World} {N : Nat} (h : Only r w w') (hN : N ≤ w.heap.size) (hr : ∀ k, k < N → ¬ r k) : Below N w w' :=
  ⟨h.os, h.tape, h.output, h.size, fun k hk => h.block k (by omega) (hr k hk)⟩
theorem below_only {N : Nat} {q : Nat → Prop} {a b c : World} (h : Below N a b) (hN : N ≤ b.heap.size) (ho : Only q b c) (hq : ∀ k, k < N → ¬ q k) : Below N a c := h.trans (ho.below hN hq)
theorem Only.alloc {r : Nat → Prop} {a w : World} (h : Only r a w) (o : Obj) : Only r a (w.alloc o) :=
  h.then (.of_below ((Below.refl _ _).alloc (Nat.le_refl _) o))
theorem Only.drew {r : Nat → Prop} {a w : World} (h : Only r a w) : Only r a w.drew := ⟨h.os, h.tape, h.output, h.size, h.block⟩
theorem Only.drewN {r : Nat → Prop} {a w : World} (n : Nat) (h : Only r a w) : Only r a (w.drewN n) := ⟨h.os, h.tape, h.output, h.size, h.block⟩
theorem Only.setCell {r : Nat → Prop} {a w : World} (h : Only r a w) (p : Addr) (u : Value) (hp : r p.block ∨ a.heap.size ≤ p.block) : Only r a (w.setCell p u) :=
  h.trans (s := fun k => k = p.block) ⟨rfl, rfl, rfl, by simp [World.setCell], fun k _ hk => Below.heap_setCell _ _ _ _ hk⟩ (fun _ h => h) (by
    intro x hx e
    rcases hp with hp | hp
    · exact e ▸ hp
    · omega)

theorem undrewN {w w' : World} {n : Nat} (h : Below (w.drewN n).heap.size (w.drewN n) w') : Below w.heap.size w w' := ⟨h.os, h.tape, h.output, h.size, h.block⟩
theorem undrew {w w' : World} (h : Below w.drew.heap.size w.drew w') : Below w.heap.size w w' := ⟨h.os, h.tape, h.output, h.size, h.block⟩

/-! ### Bytes that lie somewhere -/

/-- The bytes l lie from the address p on, in a block of which S says yes (of no byte nothing is asked). -/
def Rd (w : World) (S : Nat → Prop) (p : Option Addr) (l : List UInt8) : Prop := ∀ i (h : i < l.length), ∃ a, p = some a ∧ S a.block ∧ w.cell? (a.add i) = some (B8 l[i])

theorem add_block (a : Addr) (i : Nat) : (a.add i).block = a.block := by unfold Addr.add; split <;> rfl
theorem Rd.nil (w : World) (S : Nat → Prop) (p : Option Addr) : Rd w S p [] := fun i h => absurd h (by simp)
theorem Rd.none_nil {w : World} {S : Nat → Prop} {l : List UInt8} (h : Rd w S none l) : l = [] := by
  cases l with
  | nil => rfl
  | cons b r => obtain ⟨a, ha, _⟩ := h 0 (by simp); cases ha
theorem Rd.kept {w w' : World} {S : Nat → Prop} {p : Option Addr} {l : List UInt8} (h : Rd w S p l) (hk : ∀ k, k < w.heap.size → S k → w'.heap[k]? = w.heap[k]?) : Rd w' S p l := by
  intro i hi
  obtain ⟨a, rfl, hs, hc⟩ := h i hi
  refine ⟨a, rfl, hs, ?_⟩
  have hlt : a.block < w.heap.size := by have := World.block_lt_of_cell? w _ hc; rwa [add_block] at this
  exact (World.cell?_of_block (w := w) (w' := w') (by rw [add_block]; exact hk a.block hlt hs)).trans hc
theorem Rd.only {w w' : World} {S r : Nat → Prop} {p : Option Addr} {l : List UInt8} (h : Rd w S p l) (ho : Only r w w') (hd : ∀ k, S k → ¬ r k) : Rd w' S p l := h.kept fun k hk hs => ho.block k hk (hd k hs)
theorem Rd.below {w w' : World} {S : Nat → Prop} {p : Option Addr} {l : List UInt8} (h : Rd w S p l) (ho : Below w.heap.size w w') : Rd w' S p l := h.kept fun k hk _ => ho.block k hk
theorem Rd.mono {w : World} {S T : Nat → Prop} {p : Option Addr} {l : List UInt8} (h : Rd w S p l) (hd : ∀ k, k < w.heap.size → S k → T k) : Rd w T p l := by
  intro i hi
  obtain ⟨a, rfl, hs, hc⟩ := h i hi
  exact ⟨a, rfl, hd _ (by have := World.block_lt_of_cell? w _ hc; rwa [add_block] at this) hs, hc⟩
theorem Rd.at {w : World} {S : Nat → Prop} {p : Option Addr} {l : List UInt8} (h : Rd w S p l) (hne : 0 < l.length) :
    ∃ g o, p = some ⟨g, o, none⟩ ∧ S g ∧ g < w.heap.size ∧ ∀ i (h : i < l.length), w.cell? ⟨g, o + i, none⟩ = some (.int .u8 (l[i].toNat : Int)) := by
  obtain ⟨⟨g, o, s⟩, rfl, hS, hc⟩ := h 0 hne
  have hs : s = none := by simpa [Addr.add] using World.cell?_spot hc
  subst hs
  refine ⟨g, o, rfl, hS, by have := World.block_lt_of_cell? w _ hc; simpa [Addr.add] using this, fun i hi => ?_⟩
  obtain ⟨a, ha, _, hc'⟩ := h i hi
  cases ha
  simp only [Addr.add] at hc'
  split at hc'
  · subst_vars; exact hc'
  · exact hc'
theorem Rd.of_at {w : World} {S : Nat → Prop} {g o : Nat} {l : List UInt8} (hs : S g) (h : ∀ i (h : i < l.length), w.cell? ⟨g, o + i, none⟩ = some (B8 l[i])) : Rd w S (some ⟨g, o, none⟩) l := by
  intro i hi
  refine ⟨_, rfl, hs, ?_⟩
  have : (⟨g, o, none⟩ : Addr).add i = ⟨g, o + i, none⟩ := by unfold Addr.add; split <;> simp_all
  rw [this]; exact h i hi

theorem Rd.drop {w : World} {S : Nat → Prop} {g o : Nat} {l : List UInt8} (k : Nat) (h : Rd w S (some ⟨g, o, none⟩) l) : Rd w S (some ⟨g, o + k, none⟩) (l.drop k) := by
  intro i hi
  have hi' : k + i < l.length := by rw [List.length_drop] at hi; omega
  obtain ⟨a, ha, hs, hc⟩ := h (k + i) hi'
  cases ha
  refine ⟨_, rfl, hs, ?_⟩
  have e1 : (⟨g, o, none⟩ : Addr).add (k + i) = ⟨g, o + k + i, none⟩ := by unfold Addr.add; split <;> simp <;> omega
  have e2 : (⟨g, o + k, none⟩ : Addr).add i = ⟨g, o + k + i, none⟩ := by unfold Addr.add; split <;> simp <;> omega
  rw [e2, ← e1, hc]
  simp
theorem Rd.take {w : World} {S : Nat → Prop} {p : Option Addr} {l : List UInt8} (k : Nat) (h : Rd w S p l) : Rd w S p (l.take k) := by
  intro i hi
  have hi' : i < l.length := by rw [List.length_take] at hi; omega
  obtain ⟨a, ha, hs, hc⟩ := h i hi'
  exact ⟨a, ha, hs, by rw [hc]; simp⟩

theorem Rd.lit (w : World) (l : List UInt8) : Rd (w.alloc (.cells (l.map B8).toArray 5)) (· = w.heap.size) (some ⟨w.heap.size, 0, none⟩) l := by
  refine Rd.of_at rfl fun i hi => ?_
  rw [World.cell?_alloc_at _ _ _ _ rfl]
  simp [hi]

/-! ### Rows of the call's own -/

/-- The slice v of n elements (of type e, sz cells each) is nil, or the row of block g, from its head on; its cells are xs. -/
def Row (w : World) (e : TypeId) (sz : Nat) (g : Nat) (v : Value) (n : Nat) (xs : List Value) : Prop := w.ownsRow 0 e sz v n xs ∧ (v.ownBlock = none ∨ v.ownBlock = some g)
/-- .. of bytes. -/
def Own (w : World) (g : Nat) (v : Value) (l : List UInt8) : Prop := Row w 5 1 g v l.length (l.map B8)

theorem Row.nil (w : World) (e : TypeId) (sz g : Nat) : Row w e sz g (.slice none 0 0) 0 [] := ⟨World.ownsRow_nil w 0 e sz, .inl rfl⟩
theorem Own.nil (w : World) (g : Nat) : Own w g (.slice none 0 0) [] := Row.nil w 5 1 g
theorem Row.kept {w w' : World} {e : TypeId} {sz g : Nat} {v : Value} {n : Nat} {xs : List Value} (h : Row w e sz g v n xs) (hk : g < w.heap.size → w'.heap[g]? = w.heap[g]?) : Row w' e sz g v n xs := by
  obtain ⟨⟨h1, h2⟩, h3⟩ := h
  refine ⟨⟨h1, ?_⟩, h3⟩
  rcases h2 with h2 | ⟨g', cap, cur, rfl, hb, hg, rest⟩
  · exact .inl h2
  · have : g' = g := by simpa [Value.ownBlock] using h3
    subst this
    exact .inr ⟨g', cap, cur, rfl, hb, by rw [hk (Array.getElem?_eq_some_iff.1 hg).1]; exact hg, rest⟩
theorem Row.only {w w' : World} {r : Nat → Prop} {e : TypeId} {sz g : Nat} {v : Value} {n : Nat} {xs : List Value} (h : Row w e sz g v n xs) (ho : Only r w w') (hd : ¬ r g) : Row w' e sz g v n xs := h.kept fun hg => ho.block g hg hd
theorem Own.only {w w' : World} {r : Nat → Prop} {g : Nat} {v : Value} {l : List UInt8} (h : Own w g v l) (ho : Only r w w') (hd : ¬ r g) : Own w' g v l := Row.only h ho hd
theorem Row.new (w : World) (e : TypeId) (sz : Nat) : Row (w.alloc (.cells #[] e)) e sz w.heap.size (.slice (some ⟨w.heap.size, 0, none⟩) 0 0) 0 [] :=
  ⟨World.ownsRow_made w #[] 0 (Nat.zero_le _) (by simp [maxLen]) (by simp), .inr rfl⟩
theorem Own.new (w : World) : Own (w.alloc (.cells #[] 5)) w.heap.size (.slice (some ⟨w.heap.size, 0, none⟩) 0 0) [] := Row.new w 5 1
theorem Own.form {w : World} {g : Nat} {v : Value} {l : List UInt8} (h : Own w g v l) :
    ∃ p c, v = .slice p l.length c ∧ l.length ≤ c ∧ c ≤ maxLen ∧ Rd w (· = g) p l ∧ (p = none → c = 0) ∧ (∀ a, p = some a → a = ⟨g, 0, none⟩ ∧ g < w.heap.size) := by
  rcases h.1.2 with ⟨hv, h0⟩ | ⟨g', cap, cur, hv, hb, hg, hn, hm, hs, ht⟩
  · have hl : l = [] := List.length_eq_zero_iff.1 h0
    subst hl
    refine ⟨none, 0, by simpa using hv, by simp, by simp [maxLen], Rd.nil _ _ _, fun _ => rfl, ?_⟩
    intro a ha; cases ha
  · have : g' = g := by have := h.2; rw [hv] at this; simpa [Value.ownBlock] using this
    subst this
    refine ⟨some ⟨g', 0, none⟩, cap, hv, hn, hm, ?_, ?_, ?_⟩
    · intro i hi
      exact ⟨_, rfl, rfl, World.ownsRow.cells h.1 (g := g') (by rw [hv]; rfl) i (B8 l[i]) (by simp [hi])⟩
    · intro h; cases h
    · intro a ha
      cases ha
      exact ⟨rfl, (Array.getElem?_eq_some_iff.1 hg).1⟩
theorem Own.lt {w : World} {g : Nat} {v : Value} {l : List UInt8} (h : Own w g v l) (hv : v ≠ .slice none 0 0) : g < w.heap.size := by
  rcases h.1.2 with ⟨hv', _⟩ | ⟨g', cap, cur, hv', hb, hg, _⟩
  · exact absurd hv' hv
  · have : g' = g := by have := h.2; rw [hv'] at this; simpa [Value.ownBlock] using this
    subst this
    exact (Array.getElem?_eq_some_iff.1 hg).1
theorem Own.shape {w : World} {g : Nat} {v : Value} {l : List UInt8} (h : Own w g v l) (hv : v ≠ .slice none 0 0) :
    ∃ c, v = .slice (some ⟨g, 0, none⟩) l.length c ∧ l.length ≤ c ∧ c ≤ maxLen ∧ g < w.heap.size := by
  rcases h.1.2 with ⟨hv', _⟩ | ⟨g', cap, cur, hv', hb, hg, hn, hm, _⟩
  · exact absurd hv' hv
  · have : g' = g := by have := h.2; rw [hv'] at this; simpa [Value.ownBlock] using this
    subst this
    exact ⟨cap, hv', hn, hm, (Array.getElem?_eq_some_iff.1 hg).1⟩
theorem Own.rd {w : World} {g : Nat} {p : Option Addr} {n c : Nat} {l : List UInt8} (h : Own w g (.slice p n c) l) : Rd w (· = g) p l := by
  obtain ⟨p', c', hv, _, _, hr, _⟩ := h.form
  cases hv
  exact hr
theorem Own.size {w : World} {g : Nat} {v : Value} {l : List UInt8} (h : Own w g v l) : l.length ≤ maxLen := by obtain ⟨p, c, _, h1, h2, _⟩ := h.form; omega
theorem oneCell_map (l : List UInt8) : ∀ u ∈ l.map B8, u.oneCell' = true := by
  intro u hu
  simp only [List.mem_map] at hu
  obtain ⟨b, _, rfl⟩ := hu
  rfl

/-- append onto a row of the call's own: it is the same block, or a new one. -/
theorem run_append_row {P : Program} (w : World) (t ty e : TypeId) (z : Value) (size bytes : Nat) (ht : P.underlying t = some (.slice e))
    (hinfo : (P.info? e).map (fun i => (i.zero, i.size, i.bytes)) = some (some z, size, bytes)) (hzs : z.cells.size = size) (hsz : 0 < size)
    (g : Nat) (v : Value) (n : Nat) (xs : List Value) (hown : Row w e size g v n xs)
    (a : Addr) (m c : Nat) (news : List Value) (hl : news.length = m * size) (hnews : ∀ j u, news[j]? = some u → w.cell? (a.add j) = some u) (h1 : ∀ u ∈ news, u.oneCell' = true)
    (h63 : n + m ≤ maxLen) (hbytes : (n + m) * bytes ≤ 140737488355328) :
    ∃ g' v' w', (Builtin.append_ #[t, t] ty #[v, .slice (some a) m c]).run P w = .ok v' w' ∧ Row w' e size g' v' (n + m) (xs ++ news) ∧ (g' = g ∨ g' = w.heap.size) ∧ w.grownBy w' v.ownBlock ∧
      (v' = .slice none 0 0 ↔ v = .slice none 0 0 ∧ m = 0) := by
  obtain ⟨i, hi, hz, hz1, hz2⟩ := info_parts hinfo
  obtain ⟨v', w', hr, ho, hgr, hn⟩ := run_append_own (P := P) w 0 t ty e i z size bytes ht hi hz hz1 hz2 hzs hsz v n xs hown.1 a m c news hl hnews h1 h63 hbytes (Nat.zero_le _)
  have hown' := hown
  obtain ⟨⟨hlen, hcase⟩, hgb⟩ := hown'
  -- which block the result has: by Go's own cases
  have key : v'.ownBlock = none ∨ v'.ownBlock = v.ownBlock ∨ v'.ownBlock = some w.heap.size := by
    rcases hcase with ⟨rfl, rfl⟩ | ⟨g0, cap, cur, rfl, hb, hg, hnc, hcm, hcs, htake⟩
    · by_cases hm : m = 0
      · subst hm
        have : v' = .slice none 0 0 := hn.2 ⟨rfl, rfl⟩
        subst this; exact .inl rfl
      · have hr2 := run_append_nil (P := P) w t ty e i z ht hi hz a m c news (by rw [hz1]; exact hl) hnews (by omega) (by simp only [maxLen] at h63; omega) (by rw [hz2]; have hb := hbytes; simp only [Nat.zero_add] at hb; omega)
        rw [hr2] at hr
        cases hr
        exact .inr (.inr rfl)
    · by_cases hroom : n + m ≤ cap
      · have hfit : n * i.size + news.length ≤ cur.size := by rw [hl, hcs, hz1, ← Nat.add_mul]; exact Nat.mul_le_mul_right _ hroom
        have hr2 := run_append_room (P := P) w t ty e i ht hi g0 n cap cur hg a m c news (by rw [hz1]; exact hl) hnews h1 hroom hfit
        rw [hr2] at hr
        cases hr
        exact .inr (.inl rfl)
      · have holds : ∀ j u, xs[j]? = some u → w.cell? ((⟨g0, 0, none⟩ : Addr).add j) = some u := hown.1.cells (g := g0) rfl
        have hr2 := run_append_grow (P := P) w t ty e i z ht hi hz ⟨g0, 0, none⟩ n cap xs (by rw [hz1]; exact hlen) holds a m c news (by rw [hz1]; exact hl) hnews (by omega) (by simp only [maxLen] at h63; omega)
          (by rw [hz2]; exact growslice_fits (by omega) hbytes)
        rw [hr2] at hr
        cases hr
        exact .inr (.inr rfl)
  rcases key with h | h | h
  · exact ⟨g, v', w', hr, ⟨ho, .inl h⟩, .inl rfl, hgr, hn⟩
  · exact ⟨g, v', w', hr, ⟨ho, by rw [h]; exact hgb⟩, .inl rfl, hgr, hn⟩
  · exact ⟨w.heap.size, v', w', hr, ⟨ho, .inr h⟩, .inr rfl, hgr, hn⟩

theorem wp_append_run {P : Program} (w : World) {o : Oper} {a : Act} {K : Act → World → Prop} {Q : Exit → Act → World → Prop} (s x : Operand) (t : TypeId)
    (ho : o.op = .call { callee := .builtin .append, args := #[s, x], argTypes := #[t, t] }) (v u : Value) (hs : a.eval s = v) (hx : a.eval x = u) {v' : Value} {w' : World}
    (hr : (Builtin.append_ #[t, t] o.type #[v, u]).run P w = .ok v' w') (h : K (a.put o.dst v') w') : o.wp P a w K Q := by
  unfold Oper.wp execOp
  simp only [ho, resolve, invoke, builtin, Sem.run_bind, Sem.run_pure, Result.andThen_ok, List.map_toArray, List.map_cons, List.map_nil, hs, hx, hr]
  exact h

/-- append onto a row of the call's own, as one step of a region that draws. -/
theorem step_append_row {P : Program} {ops : Array Oper} {w : World} {o : Oper} {a : Act} {K : Act → World → Prop} {Q : Exit → Act → World → Prop} {E : Prop} (hgd : o.guard = none) (s x : Operand) (t : TypeId)
    (ho : o.op = .call { callee := .builtin .append, args := #[s, x], argTypes := #[t, t] }) (e : TypeId) (z : Value) (size bytes : Nat) (ht : P.underlying t = some (.slice e))
    (hinfo : (P.info? e).map (fun i => (i.zero, i.size, i.bytes)) = some (some z, size, bytes)) (hzs : z.cells.size = size) (hsz : 0 < size)
    (g : Nat) (v : Value) (n : Nat) (xs : List Value) (hs : a.eval s = v) (hown : Row w e size g v n xs)
    (ad : Addr) (m c : Nat) (news : List Value) (hx : a.eval x = .slice (some ad) m c) (hl : news.length = m * size) (hnews : ∀ j u, news[j]? = some u → w.cell? (ad.add j) = some u) (h1 : ∀ u ∈ news, u.oneCell' = true)
    (h63 : n + m ≤ maxLen) (hbytes : (n + m) * bytes ≤ 140737488355328) (H : Nat) (hH : w.heap.size = H)
    (h : ∀ g' v' w', Row w' e size g' v' (n + m) (xs ++ news) → (g' = g ∨ g' = H) → Only (· = g) w w' → K (a.put o.dst v') w') :
    if Region.wanted o (yielded ops a.tmps) = true then Oper.wp P o a w K Q else E := by
  have hw : Region.wanted o (yielded ops a.tmps) = true := by simp [Region.wanted, hgd]
  rw [if_pos hw]
  obtain ⟨g', v', w', hr, hrow, hg', hgr, _⟩ := run_append_row (P := P) w t o.type e z size bytes ht hinfo hzs hsz g v n xs hown ad m c news hl hnews h1 h63 hbytes
  refine wp_append_run w s x t ho v _ hs hx hr (h g' v' w' hrow (by omega) ?_)
  exact (Only.of_grown hgr).mono fun k _ hk => by
    rcases hown.2 with h | h
    · rw [h] at hk; cases hk
    · rw [h] at hk; cases hk; rfl
theorem wpList_append_row {P : Program} {w : World} {ops : Array Oper} {rest : List Oper} {o : Oper} {a : Act} {Q : Exit → Act → World → Prop} (hgd : o.guard = none) (s x : Operand) (t : TypeId)
    (ho : o.op = .call { callee := .builtin .append, args := #[s, x], argTypes := #[t, t] }) (e : TypeId) (z : Value) (size bytes : Nat) (ht : P.underlying t = some (.slice e))
    (hinfo : (P.info? e).map (fun i => (i.zero, i.size, i.bytes)) = some (some z, size, bytes)) (hzs : z.cells.size = size) (hsz : 0 < size)
    (g : Nat) (v : Value) (n : Nat) (xs : List Value) (hs : a.eval s = v) (hown : Row w e size g v n xs)
    (ad : Addr) (m c : Nat) (news : List Value) (hx : a.eval x = .slice (some ad) m c) (hl : news.length = m * size) (hnews : ∀ j u, news[j]? = some u → w.cell? (ad.add j) = some u) (h1 : ∀ u ∈ news, u.oneCell' = true)
    (h63 : n + m ≤ maxLen) (hbytes : (n + m) * bytes ≤ 140737488355328) (H : Nat) (hH : w.heap.size = H)
    (h : ∀ g' v' w', Row w' e size g' v' (n + m) (xs ++ news) → (g' = g ∨ g' = H) → Only (· = g) w w' → wpList P ops Q rest (a.put o.dst v') w') : wpList P ops Q (o :: rest) a w := by
  obtain ⟨g', v', w', hr, hrow, hg', hgr, _⟩ := run_append_row (P := P) w t o.type e z size bytes ht hinfo hzs hsz g v n xs hown ad m c news hl hnews h1 h63 hbytes
  refine wpList_plain hgd fun K hK => wp_append_run w s x t ho v _ hs hx hr (hK _ _ (h g' v' w' hrow (by omega) ?_))
  exact (Only.of_grown hgr).mono fun k _ hk => by
    rcases hown.2 with h | h
    · rw [h] at hk; cases hk
    · rw [h] at hk; cases hk; rfl

/-- append(s, x...) of bytes: s the call's own, x whatever bytes that lie somewhere (nil and empty too). -/
theorem wpList_append_bytes {P : Program} (w : World) {ops : Array Oper} {rest : List Oper} {o : Oper} {a : Act} {Q : Exit → Act → World → Prop} (hgd : o.guard = none) (s x : Operand) (t : TypeId)
    (ho : o.op = .call { callee := .builtin .append, args := #[s, x], argTypes := #[t, t] })
    (ht : P.underlying t = some (.slice 5)) (hi : (P.info? 5).map (fun i => (i.zero, i.size, i.bytes)) = some (some (.int .u8 0), 1, 1))
    (g : Nat) (v : Value) (l : List UInt8) (hs : a.eval s = v) (hown : Own w g v l)
    (S : Nat → Prop) (p : Option Addr) (m c : Nat) (news : List UInt8) (hx : a.eval x = .slice p m c) (hm : news.length = m) (hnil : p = none → c = 0) (hn : Rd w S p news)
    (hbytes : l.length + news.length ≤ 140737488355328)
    (h : ∀ g' v' w', Own w' g' v' (l ++ news) → (g' = g ∨ g' = w.heap.size) → Only (· = g) w w' → (v' = .slice none 0 0 ↔ v = .slice none 0 0 ∧ p = none ∨ v = .slice none 0 0 ∧ news = []) → wpList P ops Q rest (a.put o.dst v') w') : wpList P ops Q (o :: rest) a w := by
  subst hm
  cases p with
  | none =>
    have hl := hn.none_nil
    subst hl
    rw [hnil rfl] at hx
    obtain ⟨i, hi0, hz0, hz1, hz2⟩ := info_parts hi
    refine wpList_append_own_none hgd s x t ho 0 5 i 1 ht hi0 v l.length (l.map B8) hs hown.1 (by simpa using hx) ?_
    exact h g v w (by simpa using hown) (.inl rfl) (Only.refl _ _) (by simp)
  | some ad =>
    have hnews : ∀ j u, (news.map B8)[j]? = some u → w.cell? (ad.add j) = some u := by
      intro j u hu
      simp only [List.getElem?_map, Option.map_eq_some_iff] at hu
      obtain ⟨b, hb, rfl⟩ := hu
      obtain ⟨hj, rfl⟩ := List.getElem?_eq_some_iff.1 hb
      obtain ⟨a', ha', _, hc'⟩ := hn j hj
      cases ha'
      exact hc'
    obtain ⟨g', v', w', hr, hrow, hg', hgr, hnl⟩ := run_append_row (P := P) w t o.type 5 (.int .u8 0) 1 1 ht hi rfl (by decide) g v l.length (l.map B8) hown ad news.length c (news.map B8) (by simp) hnews (oneCell_map _) (by unfold maxLen; omega) (by omega)
    refine wpList_plain hgd fun K hK => wp_append_run w s x t ho v _ hs hx hr (hK _ _ (h g' v' w' ?_ hg' ?_ ?_))
    · unfold Own; simpa using hrow
    · exact (Only.of_grown hgr).mono fun k _ hk => by
        rcases hown.2 with h | h
        · rw [h] at hk; cases hk
        · rw [h] at hk; cases hk; rfl
    · rw [hnl]; simp

/-! ### A struct of two cells in a block of its own -/
def Box2 (w : World) (r t : Nat) (x y : Value) : Prop := w.heap[r]? = some (.cells #[x, y] t (0, 0))
theorem Box2.c0 {w : World} {r t : Nat} {x y : Value} (h : Box2 w r t x y) : w.cell? ⟨r, 0, none⟩ = some x := by unfold Box2 at h; simp [World.cell?, h]
theorem Box2.c1 {w : World} {r t : Nat} {x y : Value} (h : Box2 w r t x y) : w.cell? ⟨r, 1, none⟩ = some y := by unfold Box2 at h; simp [World.cell?, h]
theorem Box2.fr {w : World} {r t : Nat} {x y : Value} (h : Box2 w r t x y) (o : Nat) : w.frozen? ⟨r, o, none⟩ = false := by unfold Box2 at h; simp [World.frozen?, h]
theorem Box2.lt {w : World} {r t : Nat} {x y : Value} (h : Box2 w r t x y) : r < w.heap.size := (Array.getElem?_eq_some_iff.1 h).1
theorem Box2.set0 {w : World} {r t : Nat} {x y : Value} (h : Box2 w r t x y) (z : Value) : Box2 (w.setCell ⟨r, 0, none⟩ z) r t z y := by
  unfold Box2 at *; simp [World.setCell, Array.getElem?_modify, h]
theorem Box2.set1 {w : World} {r t : Nat} {x y : Value} (h : Box2 w r t x y) (z : Value) : Box2 (w.setCell ⟨r, 1, none⟩ z) r t x z := by
  unfold Box2 at *; simp [World.setCell, Array.getElem?_modify, h]
theorem Box2.only {w w' : World} {q : Nat → Prop} {r t : Nat} {x y : Value} (h : Box2 w r t x y) (ho : Only q w w') (hd : ¬ q r) : Box2 w' r t x y := (ho.block r h.lt hd).trans h
theorem Box2.below {w w' : World} {r t : Nat} {x y : Value} (h : Box2 w r t x y) (ho : Below w.heap.size w w') : Box2 w' r t x y := (ho.block r h.lt).trans h
theorem Box2.new (w : World) (t : Nat) (x y : Value) : Box2 (w.alloc (.cells #[x, y] t)) w.heap.size t x y := heap_alloc_new w _
/-- A box and a row of another type lie in two blocks. -/
theorem Box2.ne_own {w : World} {r t g : Nat} {x y v : Value} {l : List UInt8} (h : Box2 w r t x y) (ho : Own w g v l) (ht : t ≠ 5) (hv : v ≠ .slice none 0 0) : r ≠ g := by
  rintro rfl
  rcases ho.1.2 with ⟨hv', _⟩ | ⟨g', cap, cur, hv', hb, hg, _⟩
  · exact hv hv'
  · have : g' = r := by have := ho.2; rw [hv'] at this; simpa [Value.ownBlock] using this
    subst this
    unfold Box2 at h
    rw [hg] at h
    simp at h
    exact ht h.2.symm

/-! ### Numbers -/
theorem or_i64 (a b : Nat) (ha : a < 1099511627776) (hb : b < 256) : bits .or .i64 ((a : Int) * 256) (b : Int) = ((a * 256 + b : Nat) : Int) := by
  rw [bits_join .i64 63 (by decide) (fun n h0 h1 => IntWalk.i64_in n ⟨by omega, by omega⟩) 8 _ _ (by omega) (by omega) (by omega) (by omega) (by omega) (by omega)]
  omega
theorem or_two (a b : UInt8) : bits .or .i64 (wrap64 (wrap64 (a.toNat : Int) * 256)) (wrap64 (b.toNat : Int)) = ((a.toNat * 256 + b.toNat : Nat) : Int) := by
  have ha := a.toNat_lt
  have hb := b.toNat_lt
  rw [IntWalk.wrap64_in (a.toNat : Int) ⟨by omega, by omega⟩, IntWalk.wrap64_in ((a.toNat : Int) * 256) ⟨by omega, by omega⟩, IntWalk.wrap64_in (b.toNat : Int) ⟨by omega, by omega⟩]
  exact or_i64 _ _ (by omega) (by omega)
end Go.Kx
/-
  The contracts of cursor.Reader's inner functions wrong, right and take, and of bytes.Clone. Conditions: the Reader's bytes lie in a block of their own; Clone: at most 2 to the 47th bytes.
-/
namespace Go.Proofs.YtolgaapiedbkfaaGreat
open Go.RowKit Go.Kx

theorem Tryz.info5 : (Tryz.prog.info? 5).map (fun i => (i.zero, i.size, i.bytes)) = some (some (.int .u8 0), 1, 1) := by kernel_rfl

/-- A Reader in block r that has the bytes s yet (they lie in block g; of none g may be r), and the error bad. -/
structure Cur (w : World) (r g : Nat) (s : List UInt8) (bad : Int) : Prop where
  glt : g < w.heap.size
  ex : ∃ p c, Box2 w r 197 (.slice p s.length c) (.int .i64 bad) ∧ Rd w (· = g) p s ∧ s.length ≤ c ∧ c ≤ maxLen ∧ (p = none → c = 0) ∧ ∀ a, p = some a → a.spot = none ∧ a.block = g ∧ r ≠ g
theorem Cur.lt {w : World} {r g : Nat} {s : List UInt8} {bad : Int} (h : Cur w r g s bad) : r < w.heap.size := by
  obtain ⟨p, c, hb, _⟩ := h.ex
  exact hb.lt
theorem Cur.only {w w' : World} {q : Nat → Prop} {r g : Nat} {s : List UInt8} {bad : Int} (h : Cur w r g s bad) (ho : Only q w w') (h1 : ¬ q r) (h2 : ¬ q g) : Cur w' r g s bad := by
  obtain ⟨hlt, p, c, hb, hr, h3, h4, h5, h6⟩ := h
  exact ⟨Nat.lt_of_lt_of_le hlt ho.size, p, c, hb.only ho h1, hr.only ho (fun k hk => hk ▸ h2), h3, h4, h5, h6⟩
/-- Bytes of a Reader stay where only its own block changes. -/
theorem rd_r {w w' : World} {r g : Nat} {p : Option Addr} {l : List UInt8} (hR : Rd w (· = g) p l) (h : ∀ a, p = some a → a.spot = none ∧ a.block = g ∧ r ≠ g) (ho : Only (· = r) w w') : Rd w' (· = g) p l := by
  cases p with
  | none => rw [hR.none_nil]; exact Rd.nil _ _ _
  | some a => exact hR.only ho (fun k hk e => (h a rfl).2.2 (by omega))

abbrev rp (r : Nat) : Value := .pointer (some ⟨r, 0, none⟩)
abbrev ret0 : Value := .tuple #[]

/-- The error that is noted: the first. -/
def rm (bad e : Int) : Int := if bad = 0 then e else bad

theorem wrong_c (r g : Nat) (s : List UInt8) (bad e : Int) (w : World) (hr : Cur w r g s bad) :
    Calls Tryz.prog 116 #[rp r, .int .i64 e] w fun en w' => en = .returned ret0 ∧ Cur w' r g s (rm bad e) ∧ Only (· = r) w w' := by
  obtain ⟨hlt, p, c, hb, hR, h1, h2, h3, h4⟩ := hr
  have c1 := hb.c1
  have f1 := hb.fr 1
  have hs := hb.set1 (.int .i64 e)
  by_cases h : bad = 0
  · subst h
    go_enter Tryz.func116, Tryz.ntmps116
    go_wp2
    go_end0
    have ho : Only (· = r) w (w.setCell ⟨r, 1, none⟩ (.int .i64 e)) := (Only.refl (fun k => k = r) w).setCell ⟨r, 1, none⟩ _ (.inl rfl)
    exact ⟨rfl, ⟨Nat.lt_of_lt_of_le hlt ho.size, p, c, by simpa [rm] using hs, rd_r hR h4 ho, h1, h2, h3, h4⟩, ho⟩
  · have hb0 : (bad == 0) = false := by simpa using h
    go_enter Tryz.func116, Tryz.ntmps116
    go_wp2
    go_end0
    exact ⟨rfl, ⟨hlt, p, c, by simpa [rm, h] using hb, hR, h1, h2, h3, h4⟩, Only.refl _ _⟩

theorem right_c (n : Int) (w : World) : Calls Tryz.prog 88 #[.int .i64 n] w fun e w' => e = .returned (.bool (decide (1 ≤ n ∧ n ≤ 4))) ∧ w = w' := by
  by_cases h : 1 ≤ n
  · by_cases h' : n ≤ 4
    · go_enter Tryz.func88, Tryz.ntmps88
      go_wp2
      all_goals go_ret
      all_goals (refine ⟨congrArg Ending.returned (congrArg Value.bool ?_), rfl⟩; simp; try omega)
    · go_enter Tryz.func88, Tryz.ntmps88
      go_wp2
      all_goals go_ret
      all_goals (refine ⟨congrArg Ending.returned (congrArg Value.bool ?_), rfl⟩; simp; try omega)
  · go_enter Tryz.func88, Tryz.ntmps88
    go_wp2
    all_goals go_ret
    all_goals (refine ⟨congrArg Ending.returned (congrArg Value.bool ?_), rfl⟩; simp; try omega)

/-! ### take -/
/-- The error behind a call of take. -/
def badS (s : List UInt8) (bad n : Int) : Int := if n < 0 then rm bad 3 else if (s.length : Int) < n then rm bad 2 else bad
/-- What take takes. -/
def outS (s : List UInt8) (bad n : Int) : List UInt8 := if badS s bad n = 0 then s.take n.toNat else []
/-- What it leaves. -/
def leftS (s : List UInt8) (bad n : Int) : List UInt8 := if badS s bad n = 0 then s.drop n.toNat else s

def TakeR (w : World) (r g : Nat) (s : List UInt8) (bad n : Int) (e : Ending) (w' : World) : Prop :=
  ∃ p c, e = .returned (.tuple #[.slice p (outS s bad n).length c, .bool (decide (badS s bad n = 0))]) ∧ (p = none → c = 0) ∧ Rd w' (· = g) p (outS s bad n) ∧ Cur w' r g (leftS s bad n) (badS s bad n) ∧ Only (· = r) w w'

theorem take_nil (n : Value) (w : World) : Calls Tryz.prog 117 #[.pointer none, n] w fun e w' => e = .returned (.tuple #[.slice none 0 0, .bool false]) ∧ w = w' := by
  go_enter Tryz.func117, Tryz.ntmps117
  go_wp2
  go_ret2
  exact ⟨rfl, rfl⟩

theorem takeR_no {w w' : World} {r g : Nat} {s : List UInt8} {bad n b : Int} (hb : badS s bad n = b) (h : b ≠ 0) (hc : Cur w' r g s b) (ho : Only (· = r) w w') : TakeR w r g s bad n (.returned (.tuple #[.slice none 0 0, .bool false])) w' := by
  have h' : badS s bad n ≠ 0 := by rw [hb]; exact h
  refine ⟨none, 0, ?_, fun _ => rfl, ?_, ?_, ho⟩
  · simp [outS, h']
  · simp only [outS, if_neg h']; exact Rd.nil _ _ _
  · simp only [leftS, if_neg h']; rw [hb]; exact hc

theorem take_neg (r g : Nat) (s : List UInt8) (bad n : Int) (w : World) (hr : Cur w r g s bad) (hn : n < 0) :
    Calls Tryz.prog 117 #[rp r, .int .i64 n] w (TakeR w r g s bad n) := by
  have h3 : rm bad 3 ≠ 0 := by unfold rm; split <;> simp_all
  have hi : (rm bad 3 != 0) = true := by simpa using h3
  go_enter Tryz.func117, Tryz.ntmps117
  go_wp2_with (go_at_call 116; refine (wrong_c r g s bad 3 _ hr).mono ?_; rintro e w' ⟨rfl, hc, ho⟩; obtain ⟨hne', p', c', hbx', hrest'⟩ := id hc; have d1 := hbx'.c1)
  go_ret2
  exact takeR_no (b := rm bad 3) (by simp [badS, hn]) h3 hc ho

theorem take_long (r g : Nat) (s : List UInt8) (bad n : Int) (w : World) (hr : Cur w r g s bad) (hn : 0 ≤ n) (hl : (s.length : Int) < n) :
    Calls Tryz.prog 117 #[rp r, .int .i64 n] w (TakeR w r g s bad n) := by
  have h3 : rm bad 2 ≠ 0 := by unfold rm; split <;> simp_all
  have hi : (rm bad 2 != 0) = true := by simpa using h3
  have hn' : ¬ n < 0 := by omega
  obtain ⟨hne, p, c, hb, _⟩ := id hr
  have c0 := hb.c0
  go_enter Tryz.func117, Tryz.ntmps117
  go_wp2_with (go_at_call 116; refine (wrong_c r g s bad 2 _ hr).mono ?_; rintro e w' ⟨rfl, hc, ho⟩; obtain ⟨hne', p', c', hbx', hrest'⟩ := id hc; have d1 := hbx'.c1)
  go_ret2
  exact takeR_no (b := rm bad 2) (by unfold badS; rw [if_neg (by omega), if_pos hl]) h3 hc ho

theorem take_bad (r g : Nat) (s : List UInt8) (bad n : Int) (w : World) (hr : Cur w r g s bad) (hn : 0 ≤ n) (hl : n ≤ (s.length : Int)) (h : bad ≠ 0) :
    Calls Tryz.prog 117 #[rp r, .int .i64 n] w (TakeR w r g s bad n) := by
  have hi : (bad != 0) = true := by simpa using h
  have hn' : ¬ n < 0 := by omega
  have hl' : ¬ (s.length : Int) < n := by omega
  obtain ⟨hne, p, c, hb, _⟩ := id hr
  have c0 := hb.c0
  have c1 := hb.c1
  go_enter Tryz.func117, Tryz.ntmps117
  go_wp2
  go_ret2
  exact takeR_no (b := bad) (by unfold badS; rw [if_neg (by omega), if_neg (by omega)]) h hr (Only.refl _ _)

theorem takeR_yes {w : World} {r g n c c' : Nat} {s : List UInt8} {p p' : Option Addr} (hlt : g < w.heap.size) (hb : Box2 w r 197 (.slice p s.length c) (.int .i64 0)) (hR : Rd w (· = g) p s) (hbad : badS s 0 (n : Int) = 0) (hl : n ≤ s.length)
    (hcm : c' ≤ maxLen) (hsc : s.length - n ≤ c') (hR' : Rd w (· = g) p' (s.drop n)) (hp : p = none → n = 0) (hp' : p' = none → c' = 0) (hpo : ∀ a, p = some a → a.spot = none ∧ a.block = g ∧ r ≠ g) (hpa : ∀ a, p' = some a → a.spot = none ∧ a.block = g ∧ r ≠ g) :
    TakeR w r g s 0 (n : Int) (.returned (.tuple #[.slice p n n, .bool true])) (w.setCell ⟨r, 0, none⟩ (.slice p' (s.length - n) c')) := by
  have ho : Only (· = r) w (w.setCell ⟨r, 0, none⟩ (.slice p' (s.length - n) c')) := (Only.refl (fun k => k = r) w).setCell ⟨r, 0, none⟩ _ (.inl rfl)
  have h1 : outS s 0 (n : Int) = s.take n := by unfold outS; rw [if_pos hbad]; simp
  have h2 : leftS s 0 (n : Int) = s.drop n := by unfold leftS; rw [if_pos hbad]; simp
  have h3 : (s.take n).length = n := by rw [List.length_take]; omega
  refine ⟨p, n, ?_, hp, ?_, ?_, ho⟩
  · rw [h1, h3, hbad]; rfl
  · rw [h1]; exact rd_r (hR.take n) hpo ho
  · rw [h2, hbad]
    refine ⟨Nat.lt_of_lt_of_le hlt ho.size, p', c', ?_, rd_r hR' hpa ho, by rw [List.length_drop]; exact hsc, hcm, hp', hpa⟩
    rw [List.length_drop]
    exact hb.set0 _

theorem take_ok (r g n : Nat) (s : List UInt8) (w : World) (hr : Cur w r g s 0) (hl : n ≤ s.length) :
    Calls Tryz.prog 117 #[rp r, .int .i64 (n : Int)] w (TakeR w r g s 0 (n : Int)) := by
  have hn' : ¬ (n : Int) < 0 := by omega
  have hl' : ¬ (s.length : Int) < (n : Int) := by omega
  have hbad : badS s 0 (n : Int) = 0 := by unfold badS; rw [if_neg (by omega), if_neg (by omega)]
  obtain ⟨hlt, p, c, hb, hR, hsc, hcm, hp0, hpa⟩ := id hr
  have c0 := hb.c0
  have c1 := hb.c1
  have f0 := hb.fr 0
  have hnc : n ≤ c := by omega
  have hcm' := hcm
  unfold maxLen at hcm
  go_enter Tryz.func117, Tryz.ntmps117
  go_wp2
  case inl =>
    go_ret2
    refine takeR_yes hlt hb hR hbad hl (Nat.zero_le _) (by omega) ?_ (fun e => by have := hp0 e; omega) (fun _ => rfl) hpa hpa
    rw [List.drop_of_length_le (by omega)]
    exact Rd.nil _ _ _
  case inr =>
    go_ret2
    show TakeR w r g s 0 (n : Int) (.returned (.tuple #[.slice p n n, .bool true])) (w.setCell ⟨r, 0, none⟩ (.slice (Option.map (fun x => x.add n) p) (s.length - n) (c - n)))
    refine takeR_yes hlt hb hR hbad hl (by omega) (by omega) ?_ (fun e => by have := hp0 e; omega) (fun e => by simp at e; have := hp0 e; omega) hpa ?_
    · cases p with
      | none => have := hR.none_nil; subst this; simp; exact Rd.nil _ _ _
      | some a =>
        obtain ⟨b, o, sp⟩ := a
        have := (hpa _ rfl).1
        simp at this
        subst this
        have e : (⟨b, o, none⟩ : Addr).add n = ⟨b, o + n, none⟩ := by unfold Addr.add; split <;> simp_all
        simp only [Option.map_some, e]
        exact hR.drop n
    · intro a ha
      cases p with
      | none => cases ha
      | some a' =>
        obtain ⟨b, o, sp⟩ := a'
        have h1 := (hpa _ rfl).1
        simp at h1
        subst h1
        have h2 := hpa _ rfl
        have e : (⟨b, o, none⟩ : Addr).add n = ⟨b, o + n, none⟩ := by unfold Addr.add; split <;> simp_all
        simp only [Option.map_some, e, Option.some.injEq] at ha
        subst ha
        exact ⟨rfl, h2.2.1, h2.2.2⟩

theorem take_c (r g : Nat) (s : List UInt8) (bad n : Int) (w : World) (hr : Cur w r g s bad) :
    Calls Tryz.prog 117 #[rp r, .int .i64 n] w (TakeR w r g s bad n) := by
  by_cases hn : n < 0
  · exact take_neg r g s bad n w hr hn
  by_cases hl : (s.length : Int) < n
  · exact take_long r g s bad n w hr (by omega) hl
  by_cases hb : bad = 0
  · subst hb
    obtain ⟨m, rfl⟩ : ∃ m : Nat, n = m := ⟨n.toNat, by omega⟩
    exact take_ok r g m s w hr (by omega)
  · exact take_bad r g s bad n w hr (by omega) (by omega) hb

/-! ### Clone -/
/-- Some slice that is the call's own, new, with the bytes l: nil, or a new row. -/
def NewBytes (w : World) (l : List UInt8) (e : Ending) (w' : World) : Prop :=
  ∃ g p c, e = .returned (.slice p l.length c) ∧ w.heap.size ≤ g ∧ g ≠ w'.heap.size ∧ Own w' g (.slice p l.length c) l ∧ Below w.heap.size w w'

theorem qbytes : ∀ (w : World) (a : Option Addr) (n c n' c' : Nat), (binOp .eql 38 (.slice a n c) (.slice none n' c')).run Tryz.prog w = .ok (.bool a.isNone) w := fun w a n c n' c' => Lib.run_eql_slice_nil w _ _ a n c n' c' Tryz.underlying38

theorem clone_nil (w : World) : Calls Tryz.prog 38 #[.slice none 0 0] w fun e w' => e = .returned (.slice none 0 0) ∧ w = w' := by
  have q := qbytes
  go_enter Tryz.func38, Tryz.ntmps38
  go_wp2
  go_ret
  exact ⟨rfl, rfl⟩

/-- What Clone of a slice that is not nil leaves: a new row. -/
def CloneR (w : World) (n : Nat) (l : List UInt8) (e : Ending) (w' : World) : Prop := ∃ g c', e = .returned (.slice (some ⟨g, 0, none⟩) n c') ∧ w.heap.size ≤ g ∧ g < w'.heap.size ∧ n ≤ c' ∧ c' ≤ maxLen ∧ Own w' g (.slice (some ⟨g, 0, none⟩) n c') l ∧ Below w.heap.size w w'

theorem clone_c (S : Nat → Prop) (a : Addr) (n c : Nat) (l : List UInt8) (w : World) (hn : Rd w S (some a) l) (hl : l.length ≤ 140737488355328) (hnl : l.length = n) :
    Calls Tryz.prog 38 #[.slice (some a) n c] w (CloneR w n l) := by
  subst hnl
  have q := qbytes
  have ho := Own.new w
  have hn' := Rd.below hn ((Below.refl _ _).alloc (Nat.le_refl _) (.cells #[] 5))
  go_enter Tryz.func38, Tryz.ntmps38
  go_wp2_with (at_builtin; refine wpList_append_bytes _ rfl _ _ 38 rfl Tryz.underlying38 Tryz.info5 _ _ [] rfl ho S _ _ _ l rfl rfl (by intro h; cases h) hn' ?c1 ?_)
  case c1 => simpa using hl
  intro g' v' w' ho' hg' hg hnil
  have hn0 : v' ≠ .slice none 0 0 := by simpa using hnil
  clear hnil
  obtain ⟨c', rfl, h1, h2, h3⟩ := ho'.shape hn0
  go_wp2
  go_ret
  exact ⟨g', c', rfl, by omega, h3, h1, h2, ho', (((Only.refl (fun k => k = w.heap.size) w).alloc (.cells #[] 5)).then hg).below (Nat.le_refl _) (by intro k hk e; omega)⟩

theorem clone_any (S : Nat → Prop) (p : Option Addr) (n c : Nat) (l : List UInt8) (w : World) (hn : Rd w S p l) (hp : p = none → c = 0) (hl : l.length ≤ 140737488355328) (hnl : l.length = n) :
    Calls Tryz.prog 38 #[.slice p n c] w (fun e w' => NewBytes w l e w' ∧ (p = none ↔ e = .returned (.slice none 0 0))) := by
  subst hnl
  cases p with
  | none =>
    have h0 := hn.none_nil
    subst h0
    rw [hp rfl]
    refine (clone_nil w).mono ?_
    rintro e w' ⟨rfl, rfl⟩
    exact ⟨⟨w.heap.size + 1, none, 0, rfl, by omega, by omega, Own.nil _ _, Below.refl _ _⟩, by simp⟩
  | some a =>
    refine (clone_c S a _ c l w hn hl rfl).mono ?_
    rintro e w' ⟨g, c', rfl, h1, h2, h3, h4, h5, h6⟩
    exact ⟨⟨g, _, c', rfl, h1, by omega, h5, h6⟩, by simp⟩
end Go.Proofs.YtolgaapiedbkfaaGreat
/-
  The contracts of New, Left, Done, Fail, Wrong and Bytes of cursor.Reader. Conditions: at most 2 to the 47th bytes.
-/
namespace Go.Proofs.YtolgaapiedbkfaaGreat
open Go.RowKit Go.Kx

def NewR (w : World) (l : List UInt8) (e : Ending) (w' : World) : Prop := ∃ r g, e = .returned (rp r) ∧ w.heap.size ≤ r ∧ r < w'.heap.size ∧ w.heap.size ≤ g ∧ Cur w' r g l 0 ∧ Below w.heap.size w w'

theorem new_c (S : Nat → Prop) (p : Option Addr) (n c : Nat) (l : List UInt8) (w : World) (hn : Rd w S p l) (hp : p = none → c = 0) (hl : l.length ≤ 140737488355328) (hnl : l.length = n) :
    Calls Tryz.prog 74 #[.slice p n c] w (NewR w l) := by
  go_enter Tryz.func74, Tryz.ntmps74
  go_wp2_with (go_at_call 38; refine (clone_any S _ _ _ l _ hn hp hl hnl).mono ?_; rintro e w' ⟨⟨g', p', c', rfl, h1, h2, h3, h4⟩, h5⟩)
  go_ret
  have hlr := hnl
  subst hnl
  have ho : Only (fun _ => False) w' (w'.alloc (.cells #[.slice p' l.length c', .int .i64 0] 197)) := (Only.refl _ _).alloc _
  have hR := h3.rd
  obtain ⟨p1, c1, he, e1, e2, e3, e4, e5⟩ := h3.form
  cases he
  cases p' with
  | none =>
    have h0 := hR.none_nil
    subst h0
    refine ⟨w'.heap.size, w'.heap.size, rfl, h4.size, by simp, h4.size, ⟨by simp, none, c', Box2.new _ _ _ _, Rd.nil _ _ _, e1, e2, e4, by simp⟩, h4.alloc h4.size _⟩
  | some a =>
    obtain ⟨rfl, hgl⟩ := e5 a rfl
    refine ⟨w'.heap.size, g', rfl, h4.size, by simp, h1, ⟨by simp; omega, _, c', Box2.new _ _ _ _, hR.only ho (fun _ _ h => h), e1, e2, e4, ?_⟩, h4.alloc h4.size _⟩
    intro a ha
    cases ha
    exact ⟨rfl, rfl, by omega⟩

theorem left_nil (w : World) : Calls Tryz.prog 77 #[.pointer none] w fun e w' => e = .returned (.int .i64 0) ∧ w = w' := by
  go_enter Tryz.func77, Tryz.ntmps77
  go_wp2
  go_ret
  exact ⟨rfl, rfl⟩

theorem left_c (r g : Nat) (s : List UInt8) (bad : Int) (w : World) (hr : Cur w r g s bad) :
    Calls Tryz.prog 77 #[rp r] w fun e w' => e = .returned (.int .i64 (s.length : Int)) ∧ w = w' := by
  obtain ⟨hlt, p, c, hb, _⟩ := id hr
  have c0 := hb.c0
  go_enter Tryz.func77, Tryz.ntmps77
  go_wp2
  go_ret
  exact ⟨rfl, rfl⟩

theorem done_nil (w : World) : Calls Tryz.prog 82 #[.pointer none] w fun e w' => e = .returned (.int .i64 1) ∧ w = w' := by
  go_enter Tryz.func82, Tryz.ntmps82
  go_wp2
  go_ret
  exact ⟨rfl, rfl⟩

def doneS (s : List UInt8) (bad : Int) : Int := if bad = 0 then (if s = [] then 0 else 3) else bad

theorem done_c (r g : Nat) (s : List UInt8) (bad : Int) (w : World) (hr : Cur w r g s bad) :
    Calls Tryz.prog 82 #[rp r] w fun e w' => e = .returned (.int .i64 (doneS s bad)) ∧ w = w' := by
  obtain ⟨hlt, p, c, hb, _⟩ := id hr
  have c0 := hb.c0
  have c1 := hb.c1
  by_cases h : bad = 0
  · subst h
    cases s with
    | nil =>
      go_enter Tryz.func82, Tryz.ntmps82
      go_wp2
      go_ret
      exact ⟨rfl, rfl⟩
    | cons a t =>
      have h0 : 0 < (a :: t).length := by simp
      generalize hL : (a :: t).length = L at *
      go_enter Tryz.func82, Tryz.ntmps82
      go_wp2
      go_ret
      exact ⟨rfl, rfl⟩
  · have hi : (bad != 0) = true := by simpa using h
    go_enter Tryz.func82, Tryz.ntmps82
    go_wp2
    go_ret
    exact ⟨by simp [doneS, h], rfl⟩

theorem fail_nil (w : World) : Calls Tryz.prog 154 #[.pointer none] w fun e w' => e = .returned ret0 ∧ w = w' := by
  go_enter Tryz.func154, Tryz.ntmps154
  go_wp2
  go_end0
  exact ⟨rfl, rfl⟩

def FailR (w : World) (r g : Nat) (s : List UInt8) (bad : Int) (e : Ending) (w' : World) : Prop := e = .returned ret0 ∧ Cur w' r g s (rm bad 3) ∧ Only (· = r) w w'

theorem fail_c (r g : Nat) (s : List UInt8) (bad : Int) (w : World) (hr : Cur w r g s bad) :
    Calls Tryz.prog 154 #[rp r] w (FailR w r g s bad) := by
  go_enter Tryz.func154, Tryz.ntmps154
  go_wp2_with (go_at_call 116; refine (wrong_c r g s bad 3 _ hr).mono ?_; rintro e w' ⟨rfl, hc, ho⟩)
  go_end0
  exact ⟨rfl, hc, ho⟩

theorem bytes_nil (n : Value) (w : World) : Calls Tryz.prog 76 #[.pointer none, n] w fun e w' => e = .returned (.slice none 0 0) ∧ w = w' := by
  go_enter Tryz.func76, Tryz.ntmps76
  go_wp2_with (first | (go_at_call 117; refine (take_nil n _).mono ?_; rintro e w' ⟨rfl, rfl⟩) | (go_at_call 38; refine (clone_nil _).mono ?_; rintro e w' ⟨rfl, rfl⟩))
  go_ret
  exact ⟨rfl, rfl⟩

/-- Bytes that are told (nil, or a new row), and the Reader behind it. -/
def ToldR (w : World) (r g : Nat) (out left : List UInt8) (bad : Int) (e : Ending) (w' : World) : Prop :=
  ∃ g' p c, e = .returned (.slice p out.length c) ∧ w.heap.size ≤ g' ∧ Own w' g' (.slice p out.length c) out ∧ Cur w' r g left bad ∧ Only (· = r) w w'

theorem outS_le (s : List UInt8) (bad n : Int) : (outS s bad n).length ≤ s.length := by unfold outS; split <;> simp; omega
theorem leftS_le (s : List UInt8) (bad n : Int) : (leftS s bad n).length ≤ s.length := by unfold leftS; split <;> simp

theorem bytes_c (r g : Nat) (s : List UInt8) (bad n : Int) (w : World) (hr : Cur w r g s bad) (hl : s.length ≤ 140737488355328) :
    Calls Tryz.prog 76 #[rp r, .int .i64 n] w (ToldR w r g (outS s bad n) (leftS s bad n) (badS s bad n)) := by
  have hlo := outS_le s bad n
  have hlt := hr.lt
  have hgt := hr.glt
  go_enter Tryz.func76, Tryz.ntmps76
  go_wp2_with (first
    | (go_at_call 117; refine (take_c r g s bad n _ hr).mono ?_; rintro e w' ⟨p, c, rfl, hp, hR, hc, ho⟩)
    | (go_at_call 38; refine (clone_any (· = g) _ _ _ (outS s bad n) _ hR hp (by omega) rfl).mono ?_; rintro e w2 ⟨⟨g', p', c', rfl, h1, h2, h3, h4⟩, h5⟩))
  go_ret
  have hsz := ho.size
  exact ⟨g', p', c', rfl, by omega, h3, hc.only (.of_below h4 (r := fun _ => False)) (fun h => h) (fun h => h), ho.then (.of_below h4)⟩
end Go.Proofs.YtolgaapiedbkfaaGreat
/-
  The contracts of Uint and Vector of cursor.Reader. Conditions: at most 2 to the 47th bytes.
-/
namespace Go.Proofs.YtolgaapiedbkfaaGreat
open Go.RowKit Go.Kx

/-- The number that bytes tell, the greatest first. -/
def beN (l : List UInt8) : Nat := l.foldl (fun n b => n * 256 + b.toNat) 0
theorem beN_snoc (l : List UInt8) (b : UInt8) : beN (l ++ [b]) = beN l * 256 + b.toNat := by simp [beN]
theorem foldl_be (l : List UInt8) (k : Nat) : l.foldl (fun n b => n * 256 + b.toNat) k + 1 ≤ (k + 1) * 256 ^ l.length := by
  induction l generalizing k with
  | nil => simp
  | cons b l ih =>
    have h1 := ih (k * 256 + b.toNat)
    have h2 := b.toNat_lt
    have h3 : (k * 256 + b.toNat + 1) * 256 ^ l.length ≤ ((k + 1) * 256) * 256 ^ l.length := Nat.mul_le_mul_right _ (by omega)
    rw [List.foldl_cons, List.length_cons, Nat.pow_succ, Nat.mul_comm (256 ^ l.length) 256, ← Nat.mul_assoc]
    omega
theorem beN_lt (l : List UInt8) : beN l < 256 ^ l.length := by have := foldl_be l 0; simp only [beN]; omega
theorem beN_small (l : List UInt8) (h : l.length ≤ 4) : beN l < 4294967296 := by
  have h1 := beN_lt l
  have h2 : 256 ^ l.length ≤ 256 ^ 4 := Nat.pow_le_pow_right (by decide) h
  omega
/-- The error behind a look at the width. -/
def wb (bad width : Int) : Int := if 1 ≤ width ∧ width ≤ 4 then bad else rm bad 3
theorem badS_ne {s : List UInt8} {bad n : Int} (h : bad ≠ 0) : badS s bad n ≠ 0 := by unfold badS rm; split <;> (try split) <;> simp_all
theorem out_four (s : List UInt8) (bad width : Int) : (outS s (wb bad width) width).length ≤ 4 := by
  unfold outS
  split
  · rename_i h
    by_cases hw : 1 ≤ width ∧ width ≤ 4
    · simp; omega
    · exact absurd h (badS_ne (by unfold wb; rw [if_neg hw]; unfold rm; split <;> simp_all))
  · simp

def UintR (w : World) (r g : Nat) (s : List UInt8) (bad width : Int) (e : Ending) (w' : World) : Prop :=
  e = .returned (.int .i64 (beN (outS s (wb bad width) width) : Nat)) ∧ Cur w' r g (leftS s (wb bad width) width) (badS s (wb bad width) width) ∧ Only (· = r) w w'

theorem uint_nil (width : Int) (w : World) : Calls Tryz.prog 75 #[.pointer none, .int .i64 width] w fun e w' => e = .returned (.int .i64 0) ∧ w = w' := by
  go_enter Tryz.func75, Tryz.ntmps75
  go_wp2_with (first | (go_at_call 117; refine (take_nil _ _).mono ?_; rintro e w' ⟨rfl, rfl⟩))
  go_ret
  exact ⟨rfl, rfl⟩

/-- One round of Uint: so many bytes are in the number. -/
def URel (wa : World) (l : List UInt8) (v7 v29 : Value) (wr : World) : Prop := ∃ i : Nat, v29 = .int .i64 (i : Int) ∧ v7 = .int .i64 (beN (l.take i) : Nat) ∧ i ≤ l.length ∧ ∃ k, wr = wa.drewN k

theorem uint_c (r g : Nat) (s : List UInt8) (bad width : Int) (w : World) (hr : Cur w r g s bad) :
    Calls Tryz.prog 75 #[rp r, .int .i64 width] w (UintR w r g s bad width) := by
  by_cases hw : 1 ≤ width ∧ width ≤ 4
  · have hwb : wb bad width = bad := if_pos hw
    have h4 := out_four s bad width
    rw [hwb] at h4
    unfold UintR
    rw [hwb]
    by_cases hok : badS s bad width = 0
    · have hkd : decide (badS s bad width = 0) = true := decide_eq_true hok
      go_enter Tryz.func75, Tryz.ntmps75
      go_wp2_with (first
        | (go_at_call 88; refine (right_c width _).mono ?_; rintro e w' ⟨rfl, rfl⟩)
        | (go_at_call 117; refine (take_c r g s bad width _ hr).mono ?_; rintro e w' ⟨p, c, rfl, hp, hR, hc, ho⟩))
      have HC := Lib.hid hc
      have HO := Lib.hid ho
      have HOK := Lib.hid hok
      generalize hL : outS s bad width = l at *
      have HL := Lib.hid hL
      clear hc ho hok hL
      go_loopw [7, 29] (fun v7 v29 wr => URel w' l v7 v29 wr) (fun _ v29 _ => l.length - (intOf v29).toNat)
      case atStart => exact ⟨0, rfl, rfl, by omega, 0, rfl⟩
      case round =>
        obtain ⟨i, rfl, rfl, hi, k, rfl⟩ := hrel
        have hbl := beN_small (l.take i) (by rw [List.length_take]; omega)
        by_cases hlt : i < l.length
        · obtain ⟨b, o, rfl, rfl, _, hat⟩ := hR.at (by omega)
          have d0 := hat i hlt
          clear hat
          generalize hxe : l[i] = x at d0
          have hx := x.toNat_lt
          have HX := Lib.hid hxe
          clear hxe
          generalize hm : beN (l.take i) = m at *
          have HM := Lib.hid hm
          clear hm
          go_wp2
          rw [or_i64 m x.toNat (by omega) (by omega)]
          refine ⟨⟨i + 1, by simp, ?_, by omega, by first | exact ⟨k, rfl⟩ | exact ⟨k + 1, rfl⟩ | exact ⟨_, rfl⟩⟩, by simp [intOf]; omega⟩
          rw [List.take_succ_eq_append_getElem hlt, beN_snoc, HM.out, HX.out]
        · have hil : i = l.length := by omega
          subst hil
          rw [List.take_length] at hbl ⊢
          go_wp2
          go_ret
          rw [HL.out]
          exact ⟨rfl, HC.out.only (Only.drewN _ (Only.refl (fun _ => False) _)) (fun h => h) (fun h => h), Only.drewN _ HO.out⟩
    · have hkd : decide (badS s bad width = 0) = false := decide_eq_false hok
      have hout : outS s bad width = [] := by unfold outS; rw [if_neg hok]
      go_enter Tryz.func75, Tryz.ntmps75
      go_wp2_with (first
        | (go_at_call 88; refine (right_c width _).mono ?_; rintro e w' ⟨rfl, rfl⟩)
        | (go_at_call 117; refine (take_c r g s bad width _ hr).mono ?_; rintro e w' ⟨p, c, rfl, hp, hR, hc, ho⟩))
      go_ret
      rw [hout]
      exact ⟨rfl, hc, ho⟩
  · have hwb : wb bad width = rm bad 3 := if_neg hw
    have h3 : rm bad 3 ≠ 0 := by unfold rm; split <;> simp_all
    have hok : badS s (rm bad 3) width ≠ 0 := badS_ne h3
    unfold UintR
    rw [hwb]
    have hkd : decide (badS s (rm bad 3) width = 0) = false := decide_eq_false hok
    have hout : outS s (rm bad 3) width = [] := by unfold outS; rw [if_neg hok]
    go_enter Tryz.func75, Tryz.ntmps75
    go_wp2_with (first
      | (go_at_call 88; refine (right_c width _).mono ?_; rintro e w' ⟨rfl, rfl⟩)
      | (go_at_call 116; refine (wrong_c r g s bad 3 _ hr).mono ?_; rintro e w1 ⟨rfl, hc1, ho1⟩)
      | (go_at_call 117; refine (take_c r g s (rm bad 3) width _ hc1).mono ?_; rintro e w' ⟨p, c, rfl, hp, hR, hc, ho⟩))
    go_ret
    rw [hout]
    exact ⟨rfl, hc, ho1.then ho⟩

/-! ### Vector -/
/-- What Vector tells: the bytes, what is left, the error. -/
def vecS (s : List UInt8) (bad width least most : Int) : List UInt8 × List UInt8 × Int :=
  let out := outS s (wb bad width) width
  let s1 := leftS s (wb bad width) width
  let b1 := badS s (wb bad width) width
  let n : Int := (beN out : Nat)
  if badS s1 b1 n = 0 ∧ (n < least ∨ most < n) then ([], leftS s1 b1 n, 3) else (outS s1 b1 n, leftS s1 b1 n, badS s1 b1 n)

theorem vector_nil (a b c : Int) (w : World) : Calls Tryz.prog 119 #[.pointer none, .int .i64 a, .int .i64 b, .int .i64 c] w fun e w' => e = .returned (.slice none 0 0) ∧ w = w' := by
  go_enter Tryz.func119, Tryz.ntmps119
  go_wp2_with (first | (go_at_call 75; refine (uint_nil _ _).mono ?_; rintro e w' ⟨rfl, rfl⟩) | (go_at_call 117; refine (take_nil _ _).mono ?_; rintro e w' ⟨rfl, rfl⟩) | (go_at_call 38; refine (clone_nil _).mono ?_; rintro e w' ⟨rfl, rfl⟩))
  go_ret
  exact ⟨rfl, rfl⟩

theorem vector_c (r g : Nat) (s : List UInt8) (bad width least most : Int) (w : World) (hr : Cur w r g s bad) (hl : s.length ≤ 140737488355328) :
    Calls Tryz.prog 119 #[rp r, .int .i64 width, .int .i64 least, .int .i64 most] w (ToldR w r g (vecS s bad width least most).1 (vecS s bad width least most).2.1 (vecS s bad width least most).2.2) := by
  obtain ⟨out, hout⟩ : ∃ out, out = outS s (wb bad width) width := ⟨_, rfl⟩
  obtain ⟨s1, hs1⟩ : ∃ s1, s1 = leftS s (wb bad width) width := ⟨_, rfl⟩
  obtain ⟨b1, hb1⟩ : ∃ b1, b1 = badS s (wb bad width) width := ⟨_, rfl⟩
  obtain ⟨n, hn⟩ : ∃ n, n = beN out := ⟨_, rfl⟩
  have hs1l : s1.length ≤ s.length := by rw [hs1]; exact leftS_le _ _ _
  have hvec : vecS s bad width least most = if badS s1 b1 (n : Int) = 0 ∧ ((n : Int) < least ∨ most < (n : Int)) then ([], leftS s1 b1 (n : Int), 3) else (outS s1 b1 (n : Int), leftS s1 b1 (n : Int), badS s1 b1 (n : Int)) := by
    unfold vecS; rw [hn, hout, hs1, hb1]
  have hlo := outS_le s1 b1 (n : Int)
  have hlt := hr.lt
  have hgt := hr.glt
  have HV := Lib.hid hvec
  have HR := Lib.hid hr
  have HU : ∀ wx, Cur wx r g s bad → Calls Tryz.prog 75 #[rp r, .int .i64 width] wx (fun e w' => e = .returned (.int .i64 (n : Int)) ∧ Cur w' r g s1 b1 ∧ Only (· = r) wx w') := by
    intro wx h
    refine (uint_c r g s bad width wx h).mono ?_
    rintro e w' ⟨h1, h2, h3⟩
    rw [hn, hout, hs1, hb1]
    exact ⟨h1, h2, h3⟩
  clear hvec hr hn hout hs1 hb1
  by_cases hok : badS s1 b1 (n : Int) = 0
  · have hkd : decide (badS s1 b1 (n : Int) = 0) = true := decide_eq_true hok
    by_cases hlm : (n : Int) < least ∨ most < (n : Int)
    · have hv : vecS s bad width least most = ([], leftS s1 b1 (n : Int), 3) := by rw [HV.out, if_pos ⟨hok, hlm⟩]
      have HV2 := Lib.hid hv
      clear hv
      go_enter Tryz.func119, Tryz.ntmps119
      go_wp2_with (first
        | (go_at_call 75; refine (HU _ HR.out).mono ?_; rintro e wu ⟨rfl, hcu, hou⟩)
        | (go_at_call 117; refine (take_c r g s1 b1 (n : Int) _ hcu).mono ?_; rintro e w' ⟨p, c, rfl, hp, hR, hc, ho⟩; rw [hok] at hc)
        | (go_at_call 116; refine (wrong_c r g _ 0 3 _ hc).mono ?_; rintro e w3 ⟨rfl, hc3, ho3⟩))
      all_goals go_ret
      all_goals (rw [HV2.out]; exact ⟨w3.heap.size, none, 0, rfl, Nat.le_trans hou.size (Nat.le_trans ho.size ho3.size), Own.nil _ _, hc3, (hou.then ho).then ho3⟩)
    · have hv : vecS s bad width least most = (outS s1 b1 (n : Int), leftS s1 b1 (n : Int), badS s1 b1 (n : Int)) := by rw [HV.out, if_neg (fun h => hlm h.2)]
      have HV2 := Lib.hid hv
      clear hv
      have hl1 : ¬ (n : Int) < least := by omega
      have hl2 : ¬ most < (n : Int) := by omega
      go_enter Tryz.func119, Tryz.ntmps119
      go_wp2_with (first
        | (go_at_call 75; refine (HU _ HR.out).mono ?_; rintro e wu ⟨rfl, hcu, hou⟩)
        | (go_at_call 117; refine (take_c r g s1 b1 (n : Int) _ hcu).mono ?_; rintro e w' ⟨p, c, rfl, hp, hR, hc, ho⟩)
        | (go_at_call 38; refine (clone_any (· = g) _ _ _ (outS s1 b1 (n : Int)) _ hR hp (by omega) rfl).mono ?_; rintro e w2 ⟨⟨g', p', c', rfl, h1, h2, h3, h4⟩, h5⟩))
      all_goals go_ret
      all_goals (rw [HV2.out]; exact ⟨g', p', c', rfl, Nat.le_trans hou.size (Nat.le_trans ho.size h1), h3, hc.only (.of_below h4 (r := fun _ => False)) (fun h => h) (fun h => h), (hou.then ho).then (.of_below h4)⟩)
  · have hkd : decide (badS s1 b1 (n : Int) = 0) = false := decide_eq_false hok
    have hv : vecS s bad width least most = (outS s1 b1 (n : Int), leftS s1 b1 (n : Int), badS s1 b1 (n : Int)) := by rw [HV.out, if_neg (fun h => hok h.1)]
    have HV2 := Lib.hid hv
    clear hv
    go_enter Tryz.func119, Tryz.ntmps119
    go_wp2_with (first
      | (go_at_call 75; refine (HU _ HR.out).mono ?_; rintro e wu ⟨rfl, hcu, hou⟩)
      | (go_at_call 117; refine (take_c r g s1 b1 (n : Int) _ hcu).mono ?_; rintro e w' ⟨p, c, rfl, hp, hR, hc, ho⟩)
      | (go_at_call 38; refine (clone_any (· = g) _ _ _ (outS s1 b1 (n : Int)) _ hR hp (by omega) rfl).mono ?_; rintro e w2 ⟨⟨g', p', c', rfl, h1, h2, h3, h4⟩, h5⟩))
    all_goals go_ret
    all_goals (rw [HV2.out]; exact ⟨g', p', c', rfl, Nat.le_trans hou.size (Nat.le_trans ho.size h1), h3, hc.only (.of_below h4 (r := fun _ => False)) (fun h => h) (fun h => h), (hou.then ho).then (.of_below h4)⟩)
end Go.Proofs.YtolgaapiedbkfaaGreat
/-
  The contracts of PutUint and PutVector of package cursor. Conditions: together at most 2 to the 47th bytes.
-/
namespace Go.Kx
open Go.RowKit
theorem Row.form {w : World} {e : TypeId} {sz g : Nat} {v : Value} {n : Nat} {xs : List Value} (h : Row w e sz g v n xs) :
    ∃ p c, v = .slice p n c ∧ (0 < n → p = some ⟨g, 0, none⟩ ∧ g < w.heap.size) ∧ (∀ j u, xs[j]? = some u → w.cell? ⟨g, j, none⟩ = some u) := by
  obtain ⟨h1, h2⟩ := h
  rcases h1.2 with ⟨hv, h0⟩ | ⟨g', cap, cur, hv, hb, hg, hn, hm, hs, ht⟩
  · subst h0
    have hx : xs = [] := List.eq_nil_of_length_eq_zero (by rw [h1.1]; simp)
    subst hx
    exact ⟨none, 0, hv, by intro h; omega, by intro j u h; simp at h⟩
  · have : g' = g := by rw [hv] at h2; simpa [Value.ownBlock] using h2
    subst this
    refine ⟨_, cap, hv, fun _ => ⟨rfl, (Array.getElem?_eq_some_iff.1 hg).1⟩, fun j u hu => ?_⟩
    have := World.ownsRow.cells h1 (g := g') (by rw [hv]; rfl) j u hu
    rwa [show (⟨g', 0, none⟩ : Addr).add j = ⟨g', j, none⟩ from by unfold Addr.add; split <;> simp_all] at this

end Go.Kx
namespace Go.Proofs.YtolgaapiedbkfaaGreat
open Go.RowKit Go.Kx

/-- The number n in so many bytes, the greatest first. -/
def be (n : Nat) : Nat → List UInt8
  | 0 => []
  | k + 1 => UInt8.ofNat (n / 256 ^ k) :: be n k
theorem be_length (n k : Nat) : (be n k).length = k := by induction k with
  | zero => rfl
  | succ k ih => simp [be, ih]
/-- Is there room? -/
def putOk (n width : Int) : Prop := (1 ≤ width ∧ width ≤ 4) ∧ 0 ≤ n ∧ n < 256 ^ width.toNat
instance (n width : Int) : Decidable (putOk n width) := by unfold putOk; infer_instance

def PutNo (w : World) (e : Ending) (w' : World) : Prop := e = .returned (.slice none 0 0) ∧ Below w.heap.size w w'
def PutYes (w : World) (l : List UInt8) (e : Ending) (w' : World) : Prop := ∃ g n c, e = .returned (.slice (some ⟨g, 0, none⟩) n c) ∧ l.length = n ∧ w.heap.size ≤ g ∧ g < w'.heap.size ∧ n ≤ c ∧ c ≤ maxLen ∧ Own w' g (.slice (some ⟨g, 0, none⟩) n c) l ∧ Below w.heap.size w w'

theorem put_no (v : Value) (n width : Int) (w : World) (h : ¬ putOk n width) : Calls Tryz.prog 46 #[v, .int .i64 n, .int .i64 width] w (PutNo w) := by
  by_cases hw : 1 ≤ width ∧ width ≤ 4
  · have hkd : decide (1 ≤ width ∧ width ≤ 4) = true := decide_eq_true hw
    by_cases hn : n < 0
    · go_enter Tryz.func46, Tryz.ntmps46
      go_wp2_with (first | (go_at_call 88; refine (right_c width _).mono ?_; rintro e w' ⟨rfl, rfl⟩))
      all_goals go_ret
      all_goals exact ⟨rfl, Below.refl _ _⟩
    · have hc : width = 1 ∨ width = 2 ∨ width = 3 ∨ width = 4 := by omega
      rcases hc with rfl | rfl | rfl | rfl
      all_goals
        have hb : ¬ n < 256 ^ Int.toNat _ := fun hh => h ⟨hw, by omega, hh⟩
        simp at hb
        go_enter Tryz.func46, Tryz.ntmps46
        go_wp2_with (first | (go_at_call 88; refine (right_c _ _).mono ?_; rintro e w' ⟨rfl, rfl⟩))
        all_goals go_ret
        all_goals exact ⟨rfl, Below.refl _ _⟩
  · have hkd : decide (1 ≤ width ∧ width ≤ 4) = false := decide_eq_false hw
    go_enter Tryz.func46, Tryz.ntmps46
    go_wp2_with (first | (go_at_call 88; refine (right_c width _).mono ?_; rintro e w' ⟨rfl, rfl⟩))
    all_goals go_ret
    all_goals exact ⟨rfl, Below.refl _ _⟩

theorem cell_one (w : World) (x : Value) (t : TypeId) : ∀ j u, [x][j]? = some u → (w.alloc (.cells #[x] t)).cell? ((⟨w.heap.size, 0, none⟩ : Addr).add j) = some u := by
  intro j u hu
  cases j with
  | zero => simp at hu; subst hu; simp [Addr.add, World.cell?_alloc_at]
  | succ j => simp at hu
/-- One byte more behind a row. -/
theorem own_snoc {w : World} {g : Nat} {v : Value} {l : List UInt8} {X : Int} (b : UInt8) (h : Row w 5 1 g v (l.length + 1) (l.map B8 ++ [.int .u8 X])) (hb : X = (b.toNat : Int)) : Own w g v (l ++ [b]) := by
  unfold Own
  subst hb
  rw [List.length_append, List.map_append]
  exact h

/-- One round of PutUint. -/
def PRel (w : World) (l : List UInt8) (n W : Nat) (v7 v8 : Value) (wr : World) : Prop :=
  ∃ (k : Nat) (z : Int) (g : Nat) (dn : List UInt8), v8 = .int .i64 z ∧ z = (k : Int) - 1 ∧ k ≤ W ∧ w.heap.size ≤ g ∧ (k < W → g < wr.heap.size) ∧ Own wr g v7 (l ++ dn) ∧ dn ++ be n k = be n W ∧ Below w.heap.size w wr

set_option maxHeartbeats 4000000 in
set_option maxRecDepth 100000 in
theorem put_yes (S : Nat → Prop) (p : Option Addr) (m c : Nat) (l : List UInt8) (n W : Nat) (w : World) (hR : Rd w S p l) (hp : p = none → c = 0) (hl : l.length + 4 ≤ 140737488355328) (hm : l.length = m) (hW : 1 ≤ W ∧ W ≤ 4) (hn : n < 256 ^ W) :
    Calls Tryz.prog 46 #[.slice p m c, .int .i64 (n : Int), .int .i64 (W : Int)] w (PutYes w (l ++ be n W)) := by
  subst hm
  have hkd : decide (1 ≤ (W : Int) ∧ (W : Int) ≤ 4) = true := decide_eq_true (by omega)
  have hc : W = 1 ∨ W = 2 ∨ W = 3 ∨ W = 4 := by omega
  have hn4 : n < 4294967296 := Nat.lt_of_lt_of_le hn (Nat.le_trans (Nat.pow_le_pow_right (by decide) hW.2) (by decide))
  suffices H : ∀ V, V = W → Calls Tryz.prog 46 #[.slice p l.length c, .int .i64 (n : Int), .int .i64 (W : Int)] w (PutYes w (l ++ be n V)) from H W rfl
  intro V hV
  have hV4 : 1 ≤ V ∧ V ≤ 4 := by omega
  rcases hc with rfl | rfl | rfl | rfl
  all_goals
    simp at hn
    go_enter Tryz.func46, Tryz.ntmps46
    go_wp2_with (first
      | (go_at_call 88; refine (right_c _ _).mono ?_; rintro e w' ⟨rfl, rfl⟩)
      | (go_at_call 38; refine (clone_any S _ _ _ l _ hR hp (by omega) rfl).mono ?_; rintro e w2 ⟨⟨g', p', c', rfl, h1, h2, h3, h4⟩, h5⟩))
    have HB := Lib.hid h4
    have H3 := Lib.hid h3
    clear h3 h4 h5 hR
  all_goals
    go_loopw [7, 8] (fun v7 v8 wr => PRel w l n V v7 v8 wr) (fun _ v8 _ => (intOf v8 + 1).toNat)
    case atStart => exact ⟨V, _, g', [], rfl, by omega, by omega, h1, by omega, by simpa using H3.out, by simp, HB.out⟩
    case round =>
      clear hkd hW
      obtain ⟨k, z, g, dn, rfl, hz, hk, hg, hgl, hO, hdn, hB⟩ := hrel
      have HO := Lib.hid hO
      have HDN := Lib.hid hdn
      have HBB := Lib.hid hB
      have hdl : dn.length + k ≤ 4 := by
        have := congrArg List.length hdn
        rw [List.length_append, be_length, be_length] at this
        omega
      clear hO hdn hB
      by_cases hk0 : k = 0
      · subst hk0
        obtain rfl : z = -1 := by omega
        clear hz hk
        obtain ⟨p2, c2, rfl, e1, e2, e3, e4, e5⟩ := HO.out.form
        go_wp2
        go_ret
        have hd : dn = be n V := by have := HDN.out; simpa [be] using this
        subst hd
        cases p2 with
        | none => have h0 := congrArg List.length e3.none_nil; rw [List.length_append, be_length] at h0; simp at h0; omega
        | some a =>
          obtain ⟨rfl, hlt⟩ := e5 a rfl
          exact ⟨g, _, c2, rfl, rfl, hg, hlt, e1, e2, HO.out, HBB.out⟩
      · obtain ⟨j, rfl⟩ : ∃ j, k = j + 1 := ⟨k - 1, by omega⟩
        have hj : (j = 0 ∧ z = 0) ∨ (j = 1 ∧ z = 1) ∨ (j = 2 ∧ z = 2) ∨ (j = 3 ∧ z = 3) := by omega
        have HK := Lib.hid hk
        clear hk
        rcases hj with ⟨hj, rfl⟩ | ⟨hj, rfl⟩ | ⟨hj, rfl⟩ | ⟨hj, rfl⟩
        all_goals
          clear hz
          have HJ := Lib.hid hj
          clear hj
          go_wp2_with (at_builtin; refine wpList_append_row rfl _ _ 38 rfl 5 (.int .u8 0) 1 1 Tryz.underlying38 Tryz.info5 rfl (by decide) g u7 (l ++ dn).length ((l ++ dn).map B8) rfl (Row.only HO.out ((Only.refl (fun _ => False) wr).alloc _) (fun h => h)) ⟨wr.heap.size, 0, none⟩ 1 1 [_] rfl rfl (cell_one wr _ _) (by simp [Value.oneCell']) (by simp only [maxLen, List.length_append]; omega) (by simp only [List.length_append]; omega) (wr.heap.size + 1) (by simp) ?_; intro gB' v7' w7 hrow hg' hO7)
          have z7 := hO7.size
          simp only [World.size_alloc] at z7
          have hb7 := below_only (HBB.out.alloc HBB.out.size _) (by simp; have := HBB.out.size; omega) hO7 (by intro k hk e; omega)
          have hs : w.heap.size ≤ wr.heap.size := HBB.out.size
          obtain ⟨_, _, _, hf, _⟩ := Row.form hrow
          refine ⟨⟨j, _, gB', dn ++ [UInt8.ofNat (n / 256 ^ j)], rfl, by have := HJ.out; omega, by have := HK.out; omega, by omega, fun _ => (hf (by omega)).2, ?_, by rw [List.append_assoc]; exact HDN.out, hb7⟩, by simp [intOf]⟩
          rw [← List.append_assoc]
          refine own_snoc _ hrow ?_
          rw [HJ.out, UInt8.toNat_ofNat']
          omega
end Go.Proofs.YtolgaapiedbkfaaGreat
/-
  The contract of PutVector of package cursor. Conditions: together at most 2 to the 47th bytes.
-/
namespace Go.Proofs.YtolgaapiedbkfaaGreat
open Go.RowKit Go.Kx

theorem vec_no (v : Value) (p2 : Option Addr) (m2 c2 : Nat) (width : Int) (w : World) (h : ¬ putOk (m2 : Int) width) : Calls Tryz.prog 30 #[v, .slice p2 m2 c2, .int .i64 width] w (PutNo w) := by
  have q := qbytes
  go_enter Tryz.func30, Tryz.ntmps30
  go_wp2_with (first | (go_at_call 46; refine (put_no _ (m2 : Int) width _ h).mono ?_; rintro e w' ⟨rfl, hB⟩))
  go_ret
  exact ⟨rfl, hB⟩

theorem vec_yes (S S2 : Nat → Prop) (p p2 : Option Addr) (m c m2 c2 : Nat) (l v : List UInt8) (W : Nat) (w : World) (hR : Rd w S p l) (hp : p = none → c = 0) (hm : l.length = m) (hR2 : Rd w S2 p2 v) (hp2 : p2 = none → c2 = 0) (hm2 : v.length = m2)
    (hl : l.length + 4 + v.length ≤ 140737488355328) (hW : 1 ≤ W ∧ W ≤ 4) (hn : m2 < 256 ^ W) :
    Calls Tryz.prog 30 #[.slice p m c, .slice p2 m2 c2, .int .i64 (W : Int)] w (PutYes w (l ++ be m2 W ++ v)) := by
  have q := qbytes
  have HN := Lib.hid hn
  clear hn
  go_enter Tryz.func30, Tryz.ntmps30
  go_wp2_with (first
    | (go_at_call 46; refine (put_yes S _ _ _ l m2 W _ hR hp (by omega) hm hW HN.out).mono ?_; rintro e w' ⟨g, n1, c', rfl, hn1, h1, h2, h3, h4, h5, h6⟩)
    | (at_builtin; refine wpList_append_bytes _ rfl _ _ 38 rfl Tryz.underlying38 Tryz.info5 g _ (l ++ be m2 W) rfl h5 S2 _ _ _ v rfl hm2 hp2 (hR2.below h6) (by rw [List.length_append, be_length]; omega) ?_; intro g' vx w2 ho' hg' hg hnil))
  have hn0 : vx ≠ .slice none 0 0 := fun e => by rcases hnil.1 e with h | h <;> exact absurd h.1 (by intro h2; cases h2)
  clear hnil
  obtain ⟨c3, rfl, k1, k2, k3⟩ := ho'.shape hn0
  go_wp2
  go_ret
  exact ⟨g', _, c3, rfl, rfl, by have := h6.size; omega, k3, k1, k2, ho', below_only h6 h6.size hg (by intro k hk e; omega)⟩
end Go.Proofs.YtolgaapiedbkfaaGreat
/-
  The contracts of relayref07's PutUint and PutVector. Conditions: together at most 2 to the 47th bytes.
-/
namespace Go.Proofs.YtolgaapiedbkfaaGreat
open Go.RowKit Go.Kx

def RPutNo (w : World) (e : Ending) (w' : World) : Prop := e = .returned (.tuple #[.slice none 0 0, .bool false]) ∧ Below w.heap.size w w'
def RPutYes (w : World) (l : List UInt8) (e : Ending) (w' : World) : Prop := ∃ g n c, e = .returned (.tuple #[.slice (some ⟨g, 0, none⟩) n c, .bool true]) ∧ l.length = n ∧ w.heap.size ≤ g ∧ g < w'.heap.size ∧ n ≤ c ∧ c ≤ maxLen ∧ Own w' g (.slice (some ⟨g, 0, none⟩) n c) l ∧ Below w.heap.size w w'

/-- One round of the power. -/
def MRel (wa : World) (W : Nat) (v8 v9 : Value) (wr : World) : Prop := ∃ (i : Nat) (z y : Int), v9 = .int .i64 z ∧ z = (i : Int) ∧ v8 = .int .i64 y ∧ y = ((256 ^ i : Nat) : Int) ∧ i ≤ W ∧ wr = wa

end Go.Proofs.YtolgaapiedbkfaaGreat
/-
  Steps of a region that draws its order: min, append of bytes that lie somewhere, append of zeros. Conditions: those of each.
-/
namespace Go.Kx
open Go.RowKit

/-- A builtin's call as one step of a region that draws its order. -/
theorem step_builtin {P : Program} {ops : Array Oper} {w : World} {o : Oper} {a : Act} {K : Act → World → Prop} {Q : Exit → Act → World → Prop} {E : Prop} (hgd : o.guard = none) (s x : Operand) (t u : TypeId)
    (ho : o.op = .call { callee := .builtin .append, args := #[s, x], argTypes := #[t, u] }) (v y : Value) (hs : a.eval s = v) (hx : a.eval x = y) {v' : Value} {w' : World}
    (hr : (Builtin.append_ #[t, u] o.type #[v, y]).run P w = .ok v' w') (h : K (a.put o.dst v') w') :
    if Region.wanted o (yielded ops a.tmps) = true then Oper.wp P o a w K Q else E := by
  have hw : Region.wanted o (yielded ops a.tmps) = true := by simp [Region.wanted, hgd]
  rw [if_pos hw]
  unfold Oper.wp execOp
  simp only [ho, resolve, invoke, builtin, Sem.run_bind, Sem.run_pure, Result.andThen_ok, List.map_toArray, List.map_cons, List.map_nil, hs, hx, hr]
  exact h

theorem run_min {P : Program} (w : World) (ts : Array TypeId) (t : TypeId) (n c : Int) : (Builtin.min_ ts t #[.int .i64 n, .int .i64 c]).run P w = .ok (.int .i64 (min n c)) w := by
  have h : Builtin.min2 (.int .i64 n) (.int .i64 c) = pure (.int .i64 (min n c)) := by
    unfold Builtin.min2
    show pure (Value.int .i64 (if c < n then c else n)) = _
    congr 2
    split <;> omega
  simp [Builtin.min_, h, Sem.run_pure]

/-- min(n, c) of ints as one step. -/
theorem step_min {P : Program} {ops : Array Oper} {w : World} {o : Oper} {a : Act} {K : Act → World → Prop} {Q : Exit → Act → World → Prop} {E : Prop} (hgd : o.guard = none) (s x : Operand) (t u : TypeId)
    (ho : o.op = .call { callee := .builtin .min, args := #[s, x], argTypes := #[t, u] }) (n c m : Int) (hs : a.eval s = .int .i64 n) (hx : a.eval x = .int .i64 c) (hm : min n c = m) (h : K (a.put o.dst (.int .i64 m)) w) :
    if Region.wanted o (yielded ops a.tmps) = true then Oper.wp P o a w K Q else E := by
  have hw : Region.wanted o (yielded ops a.tmps) = true := by simp [Region.wanted, hgd]
  subst hm
  rw [if_pos hw]
  unfold Oper.wp execOp
  simp only [ho, resolve, invoke, builtin, Sem.run_bind, Sem.run_pure, Result.andThen_ok, List.map_toArray, List.map_cons, List.map_nil, hs, hx, run_min]
  exact h

/-- append of bytes that lie somewhere, as a run. -/
theorem run_append_bytes {P : Program} (w : World) (t ty : TypeId) (ht : P.underlying t = some (.slice 5)) (hi : (P.info? 5).map (fun i => (i.zero, i.size, i.bytes)) = some (some (.int .u8 0), 1, 1))
    (g : Nat) (v : Value) (l : List UInt8) (hown : Own w g v l) (S : Nat → Prop) (p : Option Addr) (m c : Nat) (news : List UInt8) (hm : news.length = m) (hnil : p = none → c = 0) (hn : Rd w S p news) (hbytes : l.length + news.length ≤ 140737488355328) :
    ∃ g' v' w', (Builtin.append_ #[t, t] ty #[v, .slice p m c]).run P w = .ok v' w' ∧ Own w' g' v' (l ++ news) ∧ (g' = g ∨ g' = w.heap.size) ∧ Only (· = g) w w' := by
  subst hm
  cases p with
  | none =>
    have hl := hn.none_nil
    subst hl
    rw [hnil rfl]
    obtain ⟨i, hi0, hz0, hz1, hz2⟩ := info_parts hi
    have hrun := run_append_owned_none (P := P) (w := w) 0 t ty 5 i 1 ht hi0 v l.length (l.map B8) hown.1
    exact ⟨g, v, w, hrun, by simpa using hown, .inl rfl, Only.refl _ _⟩
  | some ad =>
    have hnews : ∀ j u, (news.map B8)[j]? = some u → w.cell? (ad.add j) = some u := by
      intro j u hu
      simp only [List.getElem?_map, Option.map_eq_some_iff] at hu
      obtain ⟨b, hb, rfl⟩ := hu
      obtain ⟨hj, rfl⟩ := List.getElem?_eq_some_iff.1 hb
      obtain ⟨a', ha', _, hc'⟩ := hn j hj
      cases ha'
      exact hc'
    obtain ⟨g', v', w', hr, hrow, hg', hgr, hnl⟩ := run_append_row (P := P) w t ty 5 (.int .u8 0) 1 1 ht hi rfl (by decide) g v l.length (l.map B8) hown ad news.length c (news.map B8) (by simp) hnews (oneCell_map _) (by unfold maxLen; omega) (by omega)
    refine ⟨g', v', w', hr, ?_, hg', ?_⟩
    · unfold Own; simpa using hrow
    · exact (Only.of_grown hgr).mono fun k _ hk => by
        rcases hown.2 with h | h
        · rw [h] at hk; cases hk
        · rw [h] at hk; cases hk; rfl

theorem zeroCells_one (x : Value) (n : Nat) : Builtin.zeroCells #[x] n = (List.replicate n x).toArray := by
  unfold Builtin.zeroCells
  apply Array.ext
  · simp
  · intro i h1 h2
    simp
    rw [show i % 1 = 0 from by omega]
    rfl

theorem map_zeros (k : Nat) : (List.replicate k (0 : UInt8)).map B8 = List.replicate k (.int .u8 0) := by rw [List.map_replicate]; rfl

/-- append(s, make([]byte, k)...): s the call's own. -/
theorem run_append_zeros {P : Program} (w : World) (t tn ty : TypeId) (kq kn : IntKind) (ht : P.underlying t = some (.slice 5)) (htn : P.underlying tn = some (.int kn))
    (hinfo : (P.info? 5).map (fun i => (i.zero, i.size, i.bytes)) = some (some (.int .u8 0), 1, 1)) (g : Nat) (v : Value) (l : List UInt8) (hown : Own w g v l) (k : Nat) (hb : l.length + k ≤ 140737488355328) :
    ∃ g' v' w', (Builtin.append_ #[t, tn] ty #[v, .int kq k]).run P w = .ok v' w' ∧ Own w' g' v' (l ++ List.replicate k 0) ∧ (g' = g ∨ g' = w.heap.size) ∧ Only (· = g) w w' := by
  obtain ⟨i, hi, hz, hz1, hz2⟩ := info_parts hinfo
  have hw : IntKind.i64.wrap (k : Int) = k := by rw [IntKind.wrap_i64]; omega
  have hneg : ¬ ((k : Int) < 0) := by omega
  have h48i : ¬ (281474976710656 < (k : Int) * (i.bytes : Int)) := by rw [hz2]; omega
  obtain ⟨⟨hlen, hcase⟩, hgb⟩ := hown
  have hown : Own w g v l := ⟨⟨hlen, hcase⟩, hgb⟩
  by_cases h0 : k = 0
  · subst h0
    refine ⟨g, v, w, ?_, by simpa using hown, .inl rfl, Only.refl _ _⟩
    rcases hcase with ⟨rfl, hn⟩ | ⟨g0, cap, cur, rfl, hbb, hg, hnc, hcm, hcs, htake⟩
    · simp [Builtin.append_, run_underlying ht, run_underlying htn, sizeOf, typeInfo, hi, asInt, asIntOf, IntKind.wrap_i64]
    · simp [Builtin.append_, run_underlying ht, run_underlying htn, sizeOf, typeInfo, hi, asInt, asIntOf, IntKind.wrap_i64, hnc, storeCells]
  · have hns : ¬ (k * i.size = 0) := by rw [hz1]; omega
    have grown : ∀ (old : Nat), old < l.length + k → ∀ ws : World, ws = w.drew.alloc (.cells ((l.map B8).toArray ++ Builtin.zeroCells #[.int .u8 0] k ++ Builtin.zeroCells #[.int .u8 0] (grownCap w (l.length + k) old 5 - (l.length + k))) 5) →
        Own ws w.heap.size (.slice (some ⟨w.heap.size, 0, none⟩) (l.length + k) (grownCap w (l.length + k) old 5)) (l ++ List.replicate k 0) ∧ Only (· = g) w ws := by
      intro old ho ws hws
      subst hws
      have hge := grownCap_ge w (l.length + k) old 5
      have hcm : grownCap w (l.length + k) old 5 ≤ maxLen := grownCap_le_maxLen w (l.length + k) old 5 (by unfold maxLen; omega)
      refine ⟨⟨⟨by simp, .inr ⟨w.heap.size, _, _, by simp, Nat.zero_le _, heap_alloc_new w.drew _, by simpa using hge, hcm, ?_, ?_⟩⟩, .inr rfl⟩, (Only.refl _ _).drew.alloc _⟩
      · simp only [Array.size_append, List.size_toArray, List.length_map, zeroCells_one, List.length_replicate]; omega
      · simp only [zeroCells_one, Array.toList_append, List.append_assoc]
        rw [List.map_append, map_zeros, ← List.append_assoc]
        apply List.take_left'
        simp
    rcases hcase with ⟨rfl, hn⟩ | ⟨g0, cap, cur, rfl, hbb, hg, hnc, hcm, hcs, htake⟩
    · have hl : l = [] := List.length_eq_zero_iff.1 hn
      subst hl
      have hr := Lib.run_append_grow_zeros (P := P) w t tn ty 5 i (.int .u8 0) kq kn ht htn hi hz none 0 0 [] (by simp [Builtin.firstCells, Sem.run_pure]) k (by omega) (by omega) (by omega) (by omega) (by rw [hz2]; omega) (by rw [hz2]; exact growslice_fits (by omega) (by omega))
      obtain ⟨ho, hO⟩ := grown 0 (by simp; omega) _ rfl
      simp only [List.length_nil, Nat.zero_add, show (Value.int .u8 0).cells = #[Value.int .u8 0] from rfl] at ho hO hr
      exact ⟨w.heap.size, _, _, hr, by simpa using ho, .inr rfl, by simpa using hO⟩
    · have hgg : g0 = g := by simpa [Value.ownBlock] using hgb
      subst hgg
      by_cases hroom : l.length + k ≤ cap
      · have hst := run_storeCells_at P g0 (l.length * 1) 5 (List.replicate k (.int .u8 0)) 0 cur w hg (by simp; omega) (by intro u hu; rw [List.mem_replicate] at hu; rw [hu.2]; rfl)
        simp only [Nat.add_zero, Nat.mul_one] at hst
        refine ⟨g0, .slice (some ⟨g0, 0, none⟩) (l.length + k) cap, w.setRow g0 (cur.toList.take l.length ++ List.replicate k (Value.int .u8 0) ++ cur.toList.drop (l.length + k)).toArray, ?_, ?_, .inl rfl, ?_⟩
        · simp [Builtin.append_, run_underlying ht, run_underlying htn, sizeOf, typeInfo, zeroValue, hi, hz, hz1, asInt, asIntOf, hw, hneg, h48i, hroom, zeroCells_one, Addr.add_lit, Value.cells, h0]
          simp only [List.length_replicate, List.append_assoc] at hst
          rw [hst]
          rfl
        · refine ⟨⟨by simp, .inr ⟨g0, cap, _, by simp, Nat.zero_le _, setRow_heap w g0 cur _ 5 _ hg, by simpa using hroom, hcm, ?_, ?_⟩⟩, .inr rfl⟩
          · simp; omega
          · rw [List.map_append, map_zeros, ← htake]
            simp only [Nat.mul_one]
            apply List.take_left'
            simp; omega
        · exact ⟨rfl, rfl, rfl, by simp [World.setRow], fun x _ hx => setRow_other w g0 x _ hx⟩
      · have holds : ∀ j u, (l.map B8)[j]? = some u → w.drew.cell? ((⟨g0, 0, none⟩ : Addr).add j) = some u := World.ownsRow.cells (w := w) hown.1 (g := g0) rfl
        have hr := Lib.run_append_grow_zeros (P := P) w t tn ty 5 i (.int .u8 0) kq kn ht htn hi hz (some ⟨g0, 0, none⟩) l.length cap (l.map B8)
          (run_firstCells_some (P := P) w.drew i.size l.length ⟨g0, 0, none⟩ l.length cap (l.map B8) (by rw [hz1]; simp) holds) k (by omega) (by omega) (by omega) (by omega) (by rw [hz2]; omega) (by rw [hz2]; exact growslice_fits (by omega) (by omega))
        obtain ⟨ho, hO⟩ := grown cap (by omega) _ rfl
        exact ⟨w.heap.size, _, _, hr, ho, .inr rfl, hO⟩
end Go.Kx
/-
  A State of package server, and one of the document's answer, as cells; may it be (snap.Right, relayref18.Right)? No condition.
-/
namespace Go.Proofs.YtolgaapiedbkfaaGreat
open Go.RowKit Go.Kx
set_option linter.unusedVariables false

theorem between_c (n low high : Int) (w : World) : Calls Tryz.prog 59 #[.int .i64 n, .int .i64 low, .int .i64 high] w fun e w' => e = .returned (.bool (decide (low ≤ n ∧ n ≤ high))) ∧ w = w' := by
  by_cases h : low ≤ n
  · by_cases h' : n ≤ high
    · go_enter Tryz.func59, Tryz.ntmps59
      go_wp2
      all_goals go_ret
      all_goals (refine ⟨congrArg Ending.returned (congrArg Value.bool ?_), rfl⟩; simp; try omega)
    · go_enter Tryz.func59, Tryz.ntmps59
      go_wp2
      all_goals go_ret
      all_goals (refine ⟨congrArg Ending.returned (congrArg Value.bool ?_), rfl⟩; simp; try omega)
  · go_enter Tryz.func59, Tryz.ntmps59
    go_wp2
    all_goals go_ret
    all_goals (refine ⟨congrArg Ending.returned (congrArg Value.bool ?_), rfl⟩; simp; try omega)

/-- A State, read. -/
structure St where
  ph : Int
  lg : List UInt8
  sm : List UInt8
  a : Int
  b : Int
  c : Int
  d : Int
  sl : Bool
  pt : List UInt8
  us : List UInt8
  al : Int

/-- The cells of a State: its phase, its log, its seven sums, and so on. -/
structure StC (C : Array Value) (ph : Int) (lg : Value) (sm : List UInt8) (a b c d : Int) (sl : Bool) (pt us : Value) (al : Int) : Prop where
  size : C.size = 234
  len : sm.length = 224
  e0 : C[0]? = some (.int .i64 ph)
  e1 : C[1]? = some lg
  es : ∀ i (h : i < sm.length), C[2 + i]? = some (B8 sm[i])
  e226 : C[226]? = some (.int .i64 a)
  e227 : C[227]? = some (.int .i64 b)
  e228 : C[228]? = some (.int .i64 c)
  e229 : C[229]? = some (.int .i64 d)
  e230 : C[230]? = some (.bool sl)
  e231 : C[231]? = some pt
  e232 : C[232]? = some us
  e233 : C[233]? = some (.int .i64 al)

/-- A slice that has the bytes l. -/
def Sl (w : World) (v : Value) (l : List UInt8) : Prop := ∃ p n c, v = .slice p n c ∧ l.length = n ∧ Rd w (fun _ => True) p l ∧ (p = none → c = 0) ∧ n ≤ c ∧ c ≤ maxLen
theorem Sl.below {w w' : World} {v : Value} {l : List UInt8} (h : Sl w v l) (ho : Below w.heap.size w w') : Sl w' v l := by
  obtain ⟨p, n, c, rfl, h1, h2, h3⟩ := h
  exact ⟨p, n, c, rfl, h1, h2.below ho, h3⟩
theorem Sl.nil (w : World) : Sl w (.slice none 0 0) [] := ⟨none, 0, 0, rfl, rfl, Rd.nil _ _ _, fun _ => rfl, Nat.le_refl _, Nat.zero_le _⟩

/-- The cells C are the State s. -/
def IsSt (w : World) (C : Array Value) (s : St) : Prop := ∃ lg pt us, StC C s.ph lg s.sm s.a s.b s.c s.d s.sl pt us s.al ∧ Sl w lg s.lg ∧ Sl w pt s.pt ∧ Sl w us s.us
theorem IsSt.below {w w' : World} {C : Array Value} {s : St} (h : IsSt w C s) (ho : Below w.heap.size w w') : IsSt w' C s := by
  obtain ⟨lg, pt, us, h1, h2, h3, h4⟩ := h
  exact ⟨lg, pt, us, h1, h2.below ho, h3.below ho, h4.below ho⟩

/-- May it be? -/
def okS (s : St) : Prop := (0 ≤ s.ph ∧ s.ph ≤ 4) ∧ (0 ≤ s.a ∧ s.a ≤ 64) ∧ (0 ≤ s.b ∧ s.b ≤ 64) ∧ (0 ≤ s.c ∧ s.c ≤ 65535) ∧ (0 ≤ s.d ∧ s.d ≤ 65535) ∧ (-1 ≤ s.al ∧ s.al ≤ 255) ∧ s.lg.length ≤ 20000 ∧ s.pt.length ≤ 4096 ∧ s.us.length ≤ 255
instance (s : St) : Decidable (okS s) := by unfold okS; infer_instance

set_option maxHeartbeats 4000000 in
theorem right_s (C : Array Value) (s : St) (w : World) (h : IsSt w C s) :
    Calls Tryz.prog 58 #[.agg C] w fun e w' => e = .returned (.bool (decide (okS s))) ∧ Below w.heap.size w w' := by
  obtain ⟨lg, pt, us, hC, ⟨p1, n1, c1, rfl, l1, -⟩, ⟨p2, n2, c2, rfl, l2, -⟩, ⟨p3, n3, c3, rfl, l3, -⟩⟩ := h
  obtain ⟨ph, lgs, sm, a, b, c, d, sl, pts, uss, al⟩ := s
  simp only at hC l1 l2 l3
  have e0 := hC.e0
  have e1 := hC.e1
  have e6 := hC.e226
  have e7 := hC.e227
  have e8 := hC.e228
  have e9 := hC.e229
  have e11 := hC.e231
  have e12 := hC.e232
  have e13 := hC.e233
  have L := Lib.hid (And.intro l1 (And.intro l2 l3))
  clear l1 l2 l3
  go_enter Tryz.func58, Tryz.ntmps58
  go_wp2_with (first | (go_at_call 59; refine (between_c _ _ _ _).mono ?_; rintro e w' ⟨rfl, rfl⟩))
  all_goals go_ret
  all_goals obtain ⟨l1, l2, l3⟩ := L.out
  all_goals clear L hC e0 e1 e6 e7 e8 e9 e11 e12 e13
  all_goals refine ⟨congrArg Ending.returned (congrArg Value.bool ?_), (Below.refl _ _).alloc (Nat.le_refl _) _⟩
  all_goals simp only [okS]
  all_goals subst l1 l2 l3
  all_goals (first | (symm; apply decide_eq_true; simp_all; omega) | (symm; apply decide_eq_false; simp_all; omega) | (rw [Bool.eq_iff_iff]; simp_all; omega))

end Go.Proofs.YtolgaapiedbkfaaGreat
