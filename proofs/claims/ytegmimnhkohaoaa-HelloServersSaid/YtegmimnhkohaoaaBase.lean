/-
  Plain laws on worlds and on byte slices: which blocks a call may have changed; bytes that lie somewhere; rows of the call's own, and append onto them. Of any program; no condition but those that each theorem states.
-/
import Derived.WalkKit
import Derived.WalkSpells
import Derived.WalkLawsBesides
import Derived.Laws.AppendOwnNone
import Derived.Lib.Hide
import Derived.Deep.QuietTactic
import Derived.BigQuiet
import Derived.Deep.RegionHeld3
import Derived.Deep.DeepCutAuto
import Derived.StillTailTactics
import Derived.Deep.RegionLaw
namespace Go.Kx
open Go.RowKit

/-- A byte as a cell. -/
abbrev B8 (b : UInt8) : Value := .int .u8 (b.toNat : Int)

/-! ### Worlds: which blocks may have changed -/

/-- From w to w' of the blocks that lay there only those of which r says yes may have changed. -/
structure Only (r : Nat → Prop) (w w' : World) : Prop where
  os : w'.os = w.os
  tape : w'.tape = w.tape
  output : w'.output = w.output
  size : w.heap.size ≤ w'.heap.size
  block : ∀ k, k < w.heap.size → ¬ r k → w'.heap[k]? = w.heap[k]?

theorem Only.refl (r : Nat → Prop) (w : World) : Only r w w := ⟨rfl, rfl, rfl, Nat.le_refl _, fun _ _ _ => rfl⟩
theorem Only.trans {r s t : Nat → Prop} {a b c : World} (h : Only r a b) (k : Only s b c) (h1 : ∀ x, r x → t x) (h2 : ∀ x, x < a.heap.size → s x → t x) : Only t a c :=
  ⟨k.os.trans h.os, k.tape.trans h.tape, k.output.trans h.output, Nat.le_trans h.size k.size, fun x hx hn =>
    (k.block x (Nat.lt_of_lt_of_le hx h.size) (fun e => hn (h2 x hx e))).trans (h.block x hx (fun e => hn (h1 x e)))⟩
theorem Only.then {r : Nat → Prop} {a b c : World} (h : Only r a b) (k : Only r b c) : Only r a c := h.trans k (fun _ h => h) (fun _ _ h => h)
theorem Only.mono {r s : Nat → Prop} {w w' : World} (h : Only r w w') (hs : ∀ x, x < w.heap.size → r x → s x) : Only s w w' :=
  ⟨h.os, h.tape, h.output, h.size, fun k hk hn => h.block k hk (fun e => hn (hs k hk e))⟩
theorem Only.of_below {r : Nat → Prop} {w w' : World} (h : Below w.heap.size w w') : Only r w w' := ⟨h.os, h.tape, h.output, h.size, fun k hk _ => h.block k hk⟩
theorem Only.of_grown {w w' : World} {g : Option Nat} (h : w.grownBy w' g) : Only (fun k => some k = g) w w' := ⟨h.os, h.tape, h.output, h.size, fun k hk hn => h.block k hk hn⟩
theorem Only.below {r : Nat → Prop} {w w' : World} {N : Nat} (h : Only r w w') (hN : N ≤ w.heap.size) (hr : ∀ k, k < N → ¬ r k) : Below N w w' :=
  ⟨h.os, h.tape, h.output, h.size, fun k hk => h.block k (by omega) (hr k hk)⟩
theorem below_only {N : Nat} {q : Nat → Prop} {a b c : World} (h : Below N a b) (hN : N ≤ b.heap.size) (ho : Only q b c) (hq : ∀ k, k < N → ¬ q k) : Below N a c := h.trans (ho.below hN hq)
theorem Only.alloc {r : Nat → Prop} {a w : World} (h : Only r a w) (o : Obj) : Only r a (w.alloc o) :=
  h.then (.of_below ((Below.refl _ _).alloc (Nat.le_refl _) o))
theorem Only.drew {r : Nat → Prop} {a w : World} (h : Only r a w) : Only r a w.drew := ⟨h.os, h.tape, h.output, h.size, h.block⟩
theorem Only.drewN {r : Nat → Prop} {a w : World} (n : Nat) (h : Only r a w) : Only r a (w.drewN n) := ⟨h.os, h.tape, h.output, h.size, h.block⟩
theorem Only.setCell {r : Nat → Prop} {a w : World} (h : Only r a w) (p : Addr) (u : Value) (hp : r p.block ∨ a.heap.size ≤ p.block) : Only r a (w.setCell p u) :=
  h.trans (s := fun k => k = p.block) ⟨rfl, rfl, rfl, by simp [World.setCell], fun k _ hk => Below.heap_setCell _ _ _ _ hk⟩ (fun _ h => h) (by
    intro x hx e
    rcases hp with hp | hp
    · exact e ▸ hp
    · omega)

theorem undrewN {w w' : World} {n : Nat} (h : Below (w.drewN n).heap.size (w.drewN n) w') : Below w.heap.size w w' := ⟨h.os, h.tape, h.output, h.size, h.block⟩
theorem undrew {w w' : World} (h : Below w.drew.heap.size w.drew w') : Below w.heap.size w w' := ⟨h.os, h.tape, h.output, h.size, h.block⟩

/-! ### Bytes that lie somewhere -/

/-- The bytes l lie from the address p on, in a block of which S says yes (of no byte nothing is asked). -/
def Rd (w : World) (S : Nat → Prop) (p : Option Addr) (l : List UInt8) : Prop := ∀ i (h : i < l.length), ∃ a, p = some a ∧ S a.block ∧ w.cell? (a.add i) = some (B8 l[i])

theorem add_block (a : Addr) (i : Nat) : (a.add i).block = a.block := by unfold Addr.add; split <;> rfl
theorem Rd.nil (w : World) (S : Nat → Prop) (p : Option Addr) : Rd w S p [] := fun i h => absurd h (by simp)
theorem Rd.none_nil {w : World} {S : Nat → Prop} {l : List UInt8} (h : Rd w S none l) : l = [] := by
  cases l with
  | nil => rfl
  | cons b r => obtain ⟨a, ha, _⟩ := h 0 (by simp); cases ha
theorem Rd.kept {w w' : World} {S : Nat → Prop} {p : Option Addr} {l : List UInt8} (h : Rd w S p l) (hk : ∀ k, k < w.heap.size → S k → w'.heap[k]? = w.heap[k]?) : Rd w' S p l := by
  intro i hi
  obtain ⟨a, rfl, hs, hc⟩ := h i hi
  refine ⟨a, rfl, hs, ?_⟩
  have hlt : a.block < w.heap.size := by have := World.block_lt_of_cell? w _ hc; rwa [add_block] at this
  exact (World.cell?_of_block (w := w) (w' := w') (by rw [add_block]; exact hk a.block hlt hs)).trans hc
theorem Rd.only {w w' : World} {S r : Nat → Prop} {p : Option Addr} {l : List UInt8} (h : Rd w S p l) (ho : Only r w w') (hd : ∀ k, S k → ¬ r k) : Rd w' S p l := h.kept fun k hk hs => ho.block k hk (hd k hs)
theorem Rd.below {w w' : World} {S : Nat → Prop} {p : Option Addr} {l : List UInt8} (h : Rd w S p l) (ho : Below w.heap.size w w') : Rd w' S p l := h.kept fun k hk _ => ho.block k hk
theorem Rd.mono {w : World} {S T : Nat → Prop} {p : Option Addr} {l : List UInt8} (h : Rd w S p l) (hd : ∀ k, k < w.heap.size → S k → T k) : Rd w T p l := by
  intro i hi
  obtain ⟨a, rfl, hs, hc⟩ := h i hi
  exact ⟨a, rfl, hd _ (by have := World.block_lt_of_cell? w _ hc; rwa [add_block] at this) hs, hc⟩
theorem Rd.at {w : World} {S : Nat → Prop} {p : Option Addr} {l : List UInt8} (h : Rd w S p l) (hne : 0 < l.length) :
    ∃ g o, p = some ⟨g, o, none⟩ ∧ S g ∧ g < w.heap.size ∧ ∀ i (h : i < l.length), w.cell? ⟨g, o + i, none⟩ = some (.int .u8 (l[i].toNat : Int)) := by
  obtain ⟨⟨g, o, s⟩, rfl, hS, hc⟩ := h 0 hne
  have hs : s = none := by simpa [Addr.add] using World.cell?_spot hc
  subst hs
  refine ⟨g, o, rfl, hS, by have := World.block_lt_of_cell? w _ hc; simpa [Addr.add] using this, fun i hi => ?_⟩
  obtain ⟨a, ha, _, hc'⟩ := h i hi
  cases ha
  simp only [Addr.add] at hc'
  split at hc'
  · subst_vars; exact hc'
  · exact hc'
theorem Rd.of_at {w : World} {S : Nat → Prop} {g o : Nat} {l : List UInt8} (hs : S g) (h : ∀ i (h : i < l.length), w.cell? ⟨g, o + i, none⟩ = some (B8 l[i])) : Rd w S (some ⟨g, o, none⟩) l := by
  intro i hi
  refine ⟨_, rfl, hs, ?_⟩
  have : (⟨g, o, none⟩ : Addr).add i = ⟨g, o + i, none⟩ := by unfold Addr.add; split <;> simp_all
  rw [this]; exact h i hi

theorem Rd.drop {w : World} {S : Nat → Prop} {g o : Nat} {l : List UInt8} (k : Nat) (h : Rd w S (some ⟨g, o, none⟩) l) : Rd w S (some ⟨g, o + k, none⟩) (l.drop k) := by
  intro i hi
  have hi' : k + i < l.length := by rw [List.length_drop] at hi; omega
  obtain ⟨a, ha, hs, hc⟩ := h (k + i) hi'
  cases ha
  refine ⟨_, rfl, hs, ?_⟩
  have e1 : (⟨g, o, none⟩ : Addr).add (k + i) = ⟨g, o + k + i, none⟩ := by unfold Addr.add; split <;> simp <;> omega
  have e2 : (⟨g, o + k, none⟩ : Addr).add i = ⟨g, o + k + i, none⟩ := by unfold Addr.add; split <;> simp <;> omega
  rw [e2, ← e1, hc]
  simp
theorem Rd.take {w : World} {S : Nat → Prop} {p : Option Addr} {l : List UInt8} (k : Nat) (h : Rd w S p l) : Rd w S p (l.take k) := by
  intro i hi
  have hi' : i < l.length := by rw [List.length_take] at hi; omega
  obtain ⟨a, ha, hs, hc⟩ := h i hi'
  exact ⟨a, ha, hs, by rw [hc]; simp⟩

theorem Rd.lit (w : World) (l : List UInt8) : Rd (w.alloc (.cells (l.map B8).toArray 5)) (· = w.heap.size) (some ⟨w.heap.size, 0, none⟩) l := by
  refine Rd.of_at rfl fun i hi => ?_
  rw [World.cell?_alloc_at _ _ _ _ rfl]
  simp [hi]

/-! ### Rows of the call's own -/

/-- The slice v of n elements (of type e, sz cells each) is nil, or the row of block g, from its head on; its cells are xs. -/
def Row (w : World) (e : TypeId) (sz : Nat) (g : Nat) (v : Value) (n : Nat) (xs : List Value) : Prop := w.ownsRow 0 e sz v n xs ∧ (v.ownBlock = none ∨ v.ownBlock = some g)
/-- .. of bytes. -/
def Own (w : World) (g : Nat) (v : Value) (l : List UInt8) : Prop := Row w 5 1 g v l.length (l.map B8)

theorem Row.nil (w : World) (e : TypeId) (sz g : Nat) : Row w e sz g (.slice none 0 0) 0 [] := ⟨World.ownsRow_nil w 0 e sz, .inl rfl⟩
theorem Own.nil (w : World) (g : Nat) : Own w g (.slice none 0 0) [] := Row.nil w 5 1 g
theorem Row.kept {w w' : World} {e : TypeId} {sz g : Nat} {v : Value} {n : Nat} {xs : List Value} (h : Row w e sz g v n xs) (hk : g < w.heap.size → w'.heap[g]? = w.heap[g]?) : Row w' e sz g v n xs := by
  obtain ⟨⟨h1, h2⟩, h3⟩ := h
  refine ⟨⟨h1, ?_⟩, h3⟩
  rcases h2 with h2 | ⟨g', cap, cur, rfl, hb, hg, rest⟩
  · exact .inl h2
  · have : g' = g := by simpa [Value.ownBlock] using h3
    subst this
    exact .inr ⟨g', cap, cur, rfl, hb, by rw [hk (Array.getElem?_eq_some_iff.1 hg).1]; exact hg, rest⟩
theorem Row.only {w w' : World} {r : Nat → Prop} {e : TypeId} {sz g : Nat} {v : Value} {n : Nat} {xs : List Value} (h : Row w e sz g v n xs) (ho : Only r w w') (hd : ¬ r g) : Row w' e sz g v n xs := h.kept fun hg => ho.block g hg hd
theorem Own.only {w w' : World} {r : Nat → Prop} {g : Nat} {v : Value} {l : List UInt8} (h : Own w g v l) (ho : Only r w w') (hd : ¬ r g) : Own w' g v l := Row.only h ho hd
theorem Row.new (w : World) (e : TypeId) (sz : Nat) : Row (w.alloc (.cells #[] e)) e sz w.heap.size (.slice (some ⟨w.heap.size, 0, none⟩) 0 0) 0 [] :=
  ⟨World.ownsRow_made w #[] 0 (Nat.zero_le _) (by simp [maxLen]) (by simp), .inr rfl⟩
theorem Own.new (w : World) : Own (w.alloc (.cells #[] 5)) w.heap.size (.slice (some ⟨w.heap.size, 0, none⟩) 0 0) [] := Row.new w 5 1
theorem Own.form {w : World} {g : Nat} {v : Value} {l : List UInt8} (h : Own w g v l) :
    ∃ p c, v = .slice p l.length c ∧ l.length ≤ c ∧ c ≤ maxLen ∧ Rd w (· = g) p l ∧ (p = none → c = 0) ∧ (∀ a, p = some a → a = ⟨g, 0, none⟩ ∧ g < w.heap.size) := by
  rcases h.1.2 with ⟨hv, h0⟩ | ⟨g', cap, cur, hv, hb, hg, hn, hm, hs, ht⟩
  · have hl : l = [] := List.length_eq_zero_iff.1 h0
    subst hl
    refine ⟨none, 0, by simpa using hv, by simp, by simp [maxLen], Rd.nil _ _ _, fun _ => rfl, ?_⟩
    intro a ha; cases ha
  · have : g' = g := by have := h.2; rw [hv] at this; simpa [Value.ownBlock] using this
    subst this
    refine ⟨some ⟨g', 0, none⟩, cap, hv, hn, hm, ?_, ?_, ?_⟩
    · intro i hi
      exact ⟨_, rfl, rfl, World.ownsRow.cells h.1 (g := g') (by rw [hv]; rfl) i (B8 l[i]) (by simp [hi])⟩
    · intro h; cases h
    · intro a ha
      cases ha
      exact ⟨rfl, (Array.getElem?_eq_some_iff.1 hg).1⟩
theorem Own.lt {w : World} {g : Nat} {v : Value} {l : List UInt8} (h : Own w g v l) (hv : v ≠ .slice none 0 0) : g < w.heap.size := by
  rcases h.1.2 with ⟨hv', _⟩ | ⟨g', cap, cur, hv', hb, hg, _⟩
  · exact absurd hv' hv
  · have : g' = g := by have := h.2; rw [hv'] at this; simpa [Value.ownBlock] using this
    subst this
    exact (Array.getElem?_eq_some_iff.1 hg).1
theorem Own.shape {w : World} {g : Nat} {v : Value} {l : List UInt8} (h : Own w g v l) (hv : v ≠ .slice none 0 0) :
    ∃ c, v = .slice (some ⟨g, 0, none⟩) l.length c ∧ l.length ≤ c ∧ c ≤ maxLen ∧ g < w.heap.size := by
  rcases h.1.2 with ⟨hv', _⟩ | ⟨g', cap, cur, hv', hb, hg, hn, hm, _⟩
  · exact absurd hv' hv
  · have : g' = g := by have := h.2; rw [hv'] at this; simpa [Value.ownBlock] using this
    subst this
    exact ⟨cap, hv', hn, hm, (Array.getElem?_eq_some_iff.1 hg).1⟩
theorem Own.rd {w : World} {g : Nat} {p : Option Addr} {n c : Nat} {l : List UInt8} (h : Own w g (.slice p n c) l) : Rd w (· = g) p l := by
  obtain ⟨p', c', hv, _, _, hr, _⟩ := h.form
  cases hv
  exact hr
theorem Own.size {w : World} {g : Nat} {v : Value} {l : List UInt8} (h : Own w g v l) : l.length ≤ maxLen := by obtain ⟨p, c, _, h1, h2, _⟩ := h.form; omega
theorem oneCell_map (l : List UInt8) : ∀ u ∈ l.map B8, u.oneCell' = true := by
  intro u hu
  simp only [List.mem_map] at hu
  obtain ⟨b, _, rfl⟩ := hu
  rfl

/-- append onto a row of the call's own: it is the same block, or a new one. -/
theorem run_append_row {P : Program} (w : World) (t ty e : TypeId) (z : Value) (size bytes : Nat) (ht : P.underlying t = some (.slice e))
    (hinfo : (P.info? e).map (fun i => (i.zero, i.size, i.bytes)) = some (some z, size, bytes)) (hzs : z.cells.size = size) (hsz : 0 < size)
    (g : Nat) (v : Value) (n : Nat) (xs : List Value) (hown : Row w e size g v n xs)
    (a : Addr) (m c : Nat) (news : List Value) (hl : news.length = m * size) (hnews : ∀ j u, news[j]? = some u → w.cell? (a.add j) = some u) (h1 : ∀ u ∈ news, u.oneCell' = true)
    (h63 : n + m ≤ maxLen) (hbytes : (n + m) * bytes ≤ 140737488355328) :
    ∃ g' v' w', (Builtin.append_ #[t, t] ty #[v, .slice (some a) m c]).run P w = .ok v' w' ∧ Row w' e size g' v' (n + m) (xs ++ news) ∧ (g' = g ∨ g' = w.heap.size) ∧ w.grownBy w' v.ownBlock ∧
      (v' = .slice none 0 0 ↔ v = .slice none 0 0 ∧ m = 0) := by
  obtain ⟨i, hi, hz, hz1, hz2⟩ := info_parts hinfo
  obtain ⟨v', w', hr, ho, hgr, hn⟩ := run_append_own (P := P) w 0 t ty e i z size bytes ht hi hz hz1 hz2 hzs hsz v n xs hown.1 a m c news hl hnews h1 h63 hbytes (Nat.zero_le _)
  have hown' := hown
  obtain ⟨⟨hlen, hcase⟩, hgb⟩ := hown'
  -- which block the result has: by Go's own cases
  have key : v'.ownBlock = none ∨ v'.ownBlock = v.ownBlock ∨ v'.ownBlock = some w.heap.size := by
    rcases hcase with ⟨rfl, rfl⟩ | ⟨g0, cap, cur, rfl, hb, hg, hnc, hcm, hcs, htake⟩
    · by_cases hm : m = 0
      · subst hm
        have : v' = .slice none 0 0 := hn.2 ⟨rfl, rfl⟩
        subst this; exact .inl rfl
      · have hr2 := run_append_nil (P := P) w t ty e i z ht hi hz a m c news (by rw [hz1]; exact hl) hnews (by omega) (by simp only [maxLen] at h63; omega) (by rw [hz2]; have hb := hbytes; simp only [Nat.zero_add] at hb; omega)
        rw [hr2] at hr
        cases hr
        exact .inr (.inr rfl)
    · by_cases hroom : n + m ≤ cap
      · have hfit : n * i.size + news.length ≤ cur.size := by rw [hl, hcs, hz1, ← Nat.add_mul]; exact Nat.mul_le_mul_right _ hroom
        have hr2 := run_append_room (P := P) w t ty e i ht hi g0 n cap cur hg a m c news (by rw [hz1]; exact hl) hnews h1 hroom hfit
        rw [hr2] at hr
        cases hr
        exact .inr (.inl rfl)
      · have holds : ∀ j u, xs[j]? = some u → w.cell? ((⟨g0, 0, none⟩ : Addr).add j) = some u := hown.1.cells (g := g0) rfl
        have hr2 := run_append_grow (P := P) w t ty e i z ht hi hz ⟨g0, 0, none⟩ n cap xs (by rw [hz1]; exact hlen) holds a m c news (by rw [hz1]; exact hl) hnews (by omega) (by simp only [maxLen] at h63; omega)
          (by rw [hz2]; exact growslice_fits (by omega) hbytes)
        rw [hr2] at hr
        cases hr
        exact .inr (.inr rfl)
  rcases key with h | h | h
  · exact ⟨g, v', w', hr, ⟨ho, .inl h⟩, .inl rfl, hgr, hn⟩
  · exact ⟨g, v', w', hr, ⟨ho, by rw [h]; exact hgb⟩, .inl rfl, hgr, hn⟩
  · exact ⟨w.heap.size, v', w', hr, ⟨ho, .inr h⟩, .inr rfl, hgr, hn⟩

theorem wp_append_run {P : Program} (w : World) {o : Oper} {a : Act} {K : Act → World → Prop} {Q : Exit → Act → World → Prop} (s x : Operand) (t : TypeId)
    (ho : o.op = .call { callee := .builtin .append, args := #[s, x], argTypes := #[t, t] }) (v u : Value) (hs : a.eval s = v) (hx : a.eval x = u) {v' : Value} {w' : World}
    (hr : (Builtin.append_ #[t, t] o.type #[v, u]).run P w = .ok v' w') (h : K (a.put o.dst v') w') : o.wp P a w K Q := by
  unfold Oper.wp execOp
  simp only [ho, resolve, invoke, builtin, Sem.run_bind, Sem.run_pure, Result.andThen_ok, List.map_toArray, List.map_cons, List.map_nil, hs, hx, hr]
  exact h

/-- append onto a row of the call's own, as one step of a region that draws. -/
theorem step_append_row {P : Program} {ops : Array Oper} {w : World} {o : Oper} {a : Act} {K : Act → World → Prop} {Q : Exit → Act → World → Prop} {E : Prop} (hgd : o.guard = none) (s x : Operand) (t : TypeId)
    (ho : o.op = .call { callee := .builtin .append, args := #[s, x], argTypes := #[t, t] }) (e : TypeId) (z : Value) (size bytes : Nat) (ht : P.underlying t = some (.slice e))
    (hinfo : (P.info? e).map (fun i => (i.zero, i.size, i.bytes)) = some (some z, size, bytes)) (hzs : z.cells.size = size) (hsz : 0 < size)
    (g : Nat) (v : Value) (n : Nat) (xs : List Value) (hs : a.eval s = v) (hown : Row w e size g v n xs)
    (ad : Addr) (m c : Nat) (news : List Value) (hx : a.eval x = .slice (some ad) m c) (hl : news.length = m * size) (hnews : ∀ j u, news[j]? = some u → w.cell? (ad.add j) = some u) (h1 : ∀ u ∈ news, u.oneCell' = true)
    (h63 : n + m ≤ maxLen) (hbytes : (n + m) * bytes ≤ 140737488355328) (H : Nat) (hH : w.heap.size = H)
    (h : ∀ g' v' w', Row w' e size g' v' (n + m) (xs ++ news) → (g' = g ∨ g' = H) → Only (· = g) w w' → K (a.put o.dst v') w') :
    if Region.wanted o (yielded ops a.tmps) = true then Oper.wp P o a w K Q else E := by
  have hw : Region.wanted o (yielded ops a.tmps) = true := by simp [Region.wanted, hgd]
  rw [if_pos hw]
  obtain ⟨g', v', w', hr, hrow, hg', hgr, _⟩ := run_append_row (P := P) w t o.type e z size bytes ht hinfo hzs hsz g v n xs hown ad m c news hl hnews h1 h63 hbytes
  refine wp_append_run w s x t ho v _ hs hx hr (h g' v' w' hrow (by omega) ?_)
  exact (Only.of_grown hgr).mono fun k _ hk => by
    rcases hown.2 with h | h
    · rw [h] at hk; cases hk
    · rw [h] at hk; cases hk; rfl
theorem wpList_append_row {P : Program} {w : World} {ops : Array Oper} {rest : List Oper} {o : Oper} {a : Act} {Q : Exit → Act → World → Prop} (hgd : o.guard = none) (s x : Operand) (t : TypeId)
    (ho : o.op = .call { callee := .builtin .append, args := #[s, x], argTypes := #[t, t] }) (e : TypeId) (z : Value) (size bytes : Nat) (ht : P.underlying t = some (.slice e))
    (hinfo : (P.info? e).map (fun i => (i.zero, i.size, i.bytes)) = some (some z, size, bytes)) (hzs : z.cells.size = size) (hsz : 0 < size)
    (g : Nat) (v : Value) (n : Nat) (xs : List Value) (hs : a.eval s = v) (hown : Row w e size g v n xs)
    (ad : Addr) (m c : Nat) (news : List Value) (hx : a.eval x = .slice (some ad) m c) (hl : news.length = m * size) (hnews : ∀ j u, news[j]? = some u → w.cell? (ad.add j) = some u) (h1 : ∀ u ∈ news, u.oneCell' = true)
    (h63 : n + m ≤ maxLen) (hbytes : (n + m) * bytes ≤ 140737488355328) (H : Nat) (hH : w.heap.size = H)
    (h : ∀ g' v' w', Row w' e size g' v' (n + m) (xs ++ news) → (g' = g ∨ g' = H) → Only (· = g) w w' → wpList P ops Q rest (a.put o.dst v') w') : wpList P ops Q (o :: rest) a w := by
  obtain ⟨g', v', w', hr, hrow, hg', hgr, _⟩ := run_append_row (P := P) w t o.type e z size bytes ht hinfo hzs hsz g v n xs hown ad m c news hl hnews h1 h63 hbytes
  refine wpList_plain hgd fun K hK => wp_append_run w s x t ho v _ hs hx hr (hK _ _ (h g' v' w' hrow (by omega) ?_))
  exact (Only.of_grown hgr).mono fun k _ hk => by
    rcases hown.2 with h | h
    · rw [h] at hk; cases hk
    · rw [h] at hk; cases hk; rfl

/-- append(s, x...) of bytes: s the call's own, x whatever bytes that lie somewhere (nil and empty too). -/
theorem wpList_append_bytes {P : Program} (w : World) {ops : Array Oper} {rest : List Oper} {o : Oper} {a : Act} {Q : Exit → Act → World → Prop} (hgd : o.guard = none) (s x : Operand) (t : TypeId)
    (ho : o.op = .call { callee := .builtin .append, args := #[s, x], argTypes := #[t, t] })
    (ht : P.underlying t = some (.slice 5)) (hi : (P.info? 5).map (fun i => (i.zero, i.size, i.bytes)) = some (some (.int .u8 0), 1, 1))
    (g : Nat) (v : Value) (l : List UInt8) (hs : a.eval s = v) (hown : Own w g v l)
    (S : Nat → Prop) (p : Option Addr) (m c : Nat) (news : List UInt8) (hx : a.eval x = .slice p m c) (hm : news.length = m) (hnil : p = none → c = 0) (hn : Rd w S p news)
    (hbytes : l.length + news.length ≤ 140737488355328)
    (h : ∀ g' v' w', Own w' g' v' (l ++ news) → (g' = g ∨ g' = w.heap.size) → Only (· = g) w w' → (v' = .slice none 0 0 ↔ v = .slice none 0 0 ∧ p = none ∨ v = .slice none 0 0 ∧ news = []) → wpList P ops Q rest (a.put o.dst v') w') : wpList P ops Q (o :: rest) a w := by
  subst hm
  cases p with
  | none =>
    have hl := hn.none_nil
    subst hl
    rw [hnil rfl] at hx
    obtain ⟨i, hi0, hz0, hz1, hz2⟩ := info_parts hi
    refine wpList_append_own_none hgd s x t ho 0 5 i 1 ht hi0 v l.length (l.map B8) hs hown.1 (by simpa using hx) ?_
    exact h g v w (by simpa using hown) (.inl rfl) (Only.refl _ _) (by simp)
  | some ad =>
    have hnews : ∀ j u, (news.map B8)[j]? = some u → w.cell? (ad.add j) = some u := by
      intro j u hu
      simp only [List.getElem?_map, Option.map_eq_some_iff] at hu
      obtain ⟨b, hb, rfl⟩ := hu
      obtain ⟨hj, rfl⟩ := List.getElem?_eq_some_iff.1 hb
      obtain ⟨a', ha', _, hc'⟩ := hn j hj
      cases ha'
      exact hc'
    obtain ⟨g', v', w', hr, hrow, hg', hgr, hnl⟩ := run_append_row (P := P) w t o.type 5 (.int .u8 0) 1 1 ht hi rfl (by decide) g v l.length (l.map B8) hown ad news.length c (news.map B8) (by simp) hnews (oneCell_map _) (by unfold maxLen; omega) (by omega)
    refine wpList_plain hgd fun K hK => wp_append_run w s x t ho v _ hs hx hr (hK _ _ (h g' v' w' ?_ hg' ?_ ?_))
    · unfold Own; simpa using hrow
    · exact (Only.of_grown hgr).mono fun k _ hk => by
        rcases hown.2 with h | h
        · rw [h] at hk; cases hk
        · rw [h] at hk; cases hk; rfl
    · rw [hnl]; simp

/-! ### A struct of two cells in a block of its own -/
def Box2 (w : World) (r t : Nat) (x y : Value) : Prop := w.heap[r]? = some (.cells #[x, y] t (0, 0))
theorem Box2.c0 {w : World} {r t : Nat} {x y : Value} (h : Box2 w r t x y) : w.cell? ⟨r, 0, none⟩ = some x := by unfold Box2 at h; simp [World.cell?, h]
theorem Box2.c1 {w : World} {r t : Nat} {x y : Value} (h : Box2 w r t x y) : w.cell? ⟨r, 1, none⟩ = some y := by unfold Box2 at h; simp [World.cell?, h]
theorem Box2.fr {w : World} {r t : Nat} {x y : Value} (h : Box2 w r t x y) (o : Nat) : w.frozen? ⟨r, o, none⟩ = false := by unfold Box2 at h; simp [World.frozen?, h]
theorem Box2.lt {w : World} {r t : Nat} {x y : Value} (h : Box2 w r t x y) : r < w.heap.size := (Array.getElem?_eq_some_iff.1 h).1
theorem Box2.set0 {w : World} {r t : Nat} {x y : Value} (h : Box2 w r t x y) (z : Value) : Box2 (w.setCell ⟨r, 0, none⟩ z) r t z y := by
  unfold Box2 at *; simp [World.setCell, Array.getElem?_modify, h]
theorem Box2.set1 {w : World} {r t : Nat} {x y : Value} (h : Box2 w r t x y) (z : Value) : Box2 (w.setCell ⟨r, 1, none⟩ z) r t x z := by
  unfold Box2 at *; simp [World.setCell, Array.getElem?_modify, h]
theorem Box2.only {w w' : World} {q : Nat → Prop} {r t : Nat} {x y : Value} (h : Box2 w r t x y) (ho : Only q w w') (hd : ¬ q r) : Box2 w' r t x y := (ho.block r h.lt hd).trans h
theorem Box2.below {w w' : World} {r t : Nat} {x y : Value} (h : Box2 w r t x y) (ho : Below w.heap.size w w') : Box2 w' r t x y := (ho.block r h.lt).trans h
theorem Box2.new (w : World) (t : Nat) (x y : Value) : Box2 (w.alloc (.cells #[x, y] t)) w.heap.size t x y := heap_alloc_new w _
/-- A box and a row of another type lie in two blocks. -/
theorem Box2.ne_own {w : World} {r t g : Nat} {x y v : Value} {l : List UInt8} (h : Box2 w r t x y) (ho : Own w g v l) (ht : t ≠ 5) (hv : v ≠ .slice none 0 0) : r ≠ g := by
  rintro rfl
  rcases ho.1.2 with ⟨hv', _⟩ | ⟨g', cap, cur, hv', hb, hg, _⟩
  · exact hv hv'
  · have : g' = r := by have := ho.2; rw [hv'] at this; simpa [Value.ownBlock] using this
    subst this
    unfold Box2 at h
    rw [hg] at h
    simp at h
    exact ht h.2.symm

/-! ### Numbers -/
theorem or_i64 (a b : Nat) (ha : a < 1099511627776) (hb : b < 256) : bits .or .i64 ((a : Int) * 256) (b : Int) = ((a * 256 + b : Nat) : Int) := by
  rw [bits_join .i64 63 (by decide) (fun n h0 h1 => IntWalk.i64_in n ⟨by omega, by omega⟩) 8 _ _ (by omega) (by omega) (by omega) (by omega) (by omega) (by omega)]
  omega
theorem or_two (a b : UInt8) : bits .or .i64 (wrap64 (wrap64 (a.toNat : Int) * 256)) (wrap64 (b.toNat : Int)) = ((a.toNat * 256 + b.toNat : Nat) : Int) := by
  have ha := a.toNat_lt
  have hb := b.toNat_lt
  rw [IntWalk.wrap64_in (a.toNat : Int) ⟨by omega, by omega⟩, IntWalk.wrap64_in ((a.toNat : Int) * 256) ⟨by omega, by omega⟩, IntWalk.wrap64_in (b.toNat : Int) ⟨by omega, by omega⟩]
  exact or_i64 _ _ (by omega) (by omega)
end Go.Kx
