/-
  Rows of the call's own that grow by append in a region that draws its order: a list of them, with one law for each step. Of any program with []byte; no condition but those that each theorem states.
-/
import Derived.Test.YtegmimnhkohaoaaZg1
import Derived.Deep.RegionHeld3
import Derived.Orders
namespace Go.Proofs.Ytegmimnhkohaoaa
open Go.RowKit Go.Kx
set_option linter.unusedVariables false
set_option linter.unusedSimpArgs false

/-- One row of the call's own: its block, its slice, its bytes. -/
abbrev Ow := Nat × (Option Addr × Nat × Nat) × List UInt8
/-- Rows of the call's own, each in a block of its own, of at most N bytes and of one at the least; what lay in W0 is as it was. -/
def St (W0 wx : World) (N : Nat) (os : List Ow) : Prop :=
  Below W0.heap.size W0 wx ∧ (∀ (i : Nat) (x : Ow), os[i]? = some x → Own wx x.1 (.slice x.2.1.1 x.2.1.2.1 x.2.1.2.2) x.2.2 ∧ x.2.2.length = x.2.1.2.1 ∧ W0.heap.size ≤ x.1 ∧ x.1 < wx.heap.size ∧ x.2.2 ≠ [] ∧ x.2.2.length ≤ N ∧ x.2.1.1 ≠ none)
    ∧ (∀ (i j : Nat) (x y : Ow), os[i]? = some x → os[j]? = some y → i ≠ j → x.1 ≠ y.1)

theorem St.push {W0 wx wy : World} {N : Nat} {os : List Ow} (h : St W0 wx N os) (hb : Below wx.heap.size wx wy) {x : Ow} (ho : Own wy x.1 (.slice x.2.1.1 x.2.1.2.1 x.2.1.2.2) x.2.2) (hl : x.2.2.length = x.2.1.2.1) (h1 : wx.heap.size ≤ x.1) (h2 : x.1 < wy.heap.size) (h3 : x.2.2 ≠ []) (h4 : x.2.2.length ≤ N) (h5 : x.2.1.1 ≠ none) : St W0 wy N (os ++ [x]) := by
  refine ⟨h.1.trans (hb.mono h.1.size), ?_, ?_⟩
  · intro i y hy
    rw [List.getElem?_append] at hy
    split at hy
    · obtain ⟨a, b, c, d, e, f, g⟩ := h.2.1 i y hy
      exact ⟨Own.keep a hb, b, c, Nat.lt_of_lt_of_le d hb.size, e, f, g⟩
    · have hx : x = y := by
        rcases hk : i - os.length with _ | k
        · rw [hk] at hy; simpa using hy
        · rw [hk] at hy; simp at hy
      subst hx
      exact ⟨ho, hl, Nat.le_trans h.1.size h1, h2, h3, h4, h5⟩
  · intro i j y z hy hz hij
    rw [List.getElem?_append] at hy hz
    split at hy <;> split at hz
    · exact h.2.2 i j y z hy hz hij
    · have hx : x = z := by
        rcases hk : j - os.length with _ | k
        · rw [hk] at hz; simpa using hz
        · rw [hk] at hz; simp at hz
      subst hx
      have := (h.2.1 i y hy).2.2.2.1
      omega
    · have hx : x = y := by
        rcases hk : i - os.length with _ | k
        · rw [hk] at hy; simpa using hy
        · rw [hk] at hy; simp at hy
      subst hx
      have := (h.2.1 j z hz).2.2.2.1
      omega
    · exfalso
      have e1 : i - os.length = 0 := by
        rcases hk : i - os.length with _ | k
        · rfl
        · rw [hk] at hy; simp at hy
      have e2 : j - os.length = 0 := by
        rcases hk : j - os.length with _ | k
        · rfl
        · rw [hk] at hz; simp at hz
      omega

theorem St.zz {W0 wx : World} {N : Nat} {os : List Ow} (h : St W0 wx N os) (hN : 2 ≤ N) : St W0 (wx.alloc (.cells #[.int .u8 0, .int .u8 0] 5)) N (os ++ [(wx.heap.size, (some ⟨wx.heap.size, 0, none⟩, 2, 2), [0, 0])]) := by
  refine h.push ((Below.refl _ _).alloc (Nat.le_refl _) _) ?_ rfl (Nat.le_refl _) (by simp) (by simp) (by simpa using hN) (by simp)
  exact ⟨⟨by simp, .inr ⟨wx.heap.size, 2, #[.int .u8 0, .int .u8 0], by simp, Nat.zero_le _, heap_alloc_new wx _, by simp, by simp [maxLen], by simp, by simp⟩⟩, .inr rfl⟩

theorem St.zzd {W0 wx : World} {N : Nat} {os : List Ow} (h : St W0 wx.drew N os) (hN : 2 ≤ N) : St W0 (wx.alloc (.cells #[.int .u8 0, .int .u8 0] 5)).drew N (os ++ [(wx.heap.size, (some ⟨wx.heap.size, 0, none⟩, 2, 2), [0, 0])]) := h.zz hN

theorem St.one {W0 wx : World} {N : Nat} {os : List Ow} (h : St W0 wx N os) (hN : 1 ≤ N) : St W0 (wx.alloc (.cells #[.int .u8 0] 5)) N (os ++ [(wx.heap.size, (some ⟨wx.heap.size, 0, none⟩, 1, 1), [0])]) := by
  refine h.push ((Below.refl _ _).alloc (Nat.le_refl _) _) ?_ rfl (Nat.le_refl _) (by simp) (by simp) (by simpa using hN) (by simp)
  exact ⟨⟨by simp, .inr ⟨wx.heap.size, 1, #[.int .u8 0], by simp, Nat.zero_le _, heap_alloc_new wx _, by simp, by simp [maxLen], by simp, by simp⟩⟩, .inr rfl⟩
theorem St.drew {W0 wx : World} {N : Nat} {os : List Ow} (h : St W0 wx N os) : St W0 wx.drew N os :=
  ⟨h.1.drew, fun i x hx => by obtain ⟨a, b, c, d, e, f, g⟩ := h.2.1 i x hx; exact ⟨a.only ((Only.refl (fun _ => False) _).drew) (fun h => h), b, c, d, e, f, g⟩, h.2.2⟩
/-- A call that tells a new row. -/
theorem St.call {W0 wx : World} {N : Nat} {os : List Ow} {f : FuncId} {args : Array Value} {X : List UInt8} (h : St W0 wx N os) (hc : Calls Try.prog f args wx (PutYes wx X)) (hX : 0 < X.length) (hN : X.length ≤ N) :
    Calls Try.prog f args wx (fun e w' => ∃ g m k, e = .returned (.slice (some ⟨g, 0, none⟩) m k) ∧ X.length = m ∧ St W0 w' N (os ++ [(g, (some ⟨g, 0, none⟩, m, k), X)])) := by
  refine hc.mono ?_
  rintro e w' ⟨g, m, k, rfl, q1, q2, q3, q4, q5, q6, q7⟩
  exact ⟨g, m, k, rfl, q1, h.push (x := (g, (some ⟨g, 0, none⟩, m, k), X)) q7 q6 q1 q2 q3 (by intro e; simp only at e; rw [e] at hX; simp at hX) hN (by simp)⟩
theorem St.app {W0 wx : World} {N : Nat} {os : List Ow} (h : St W0 wx N os) (j : Nat) {ga gb : Nat} {pa pb : Option Addr} {na ca nb cb : Nat} {la lb : List UInt8} (hj : 0 ≠ j) (ha : os[0]? = some (ga, (pa, na, ca), la)) (hb : os[j]? = some (gb, (pb, nb, cb), lb)) (hN : N + N ≤ 140737488355328) :
    ∃ g n c w', (Builtin.append_ #[23, 23] 23 #[.slice pa na ca, .slice pb nb cb]).run Try.prog wx = .ok (.slice (some ⟨g, 0, none⟩) n c) w' ∧ (la ++ lb).length = n ∧ St W0 w' (N + N) (os.set 0 (g, (some ⟨g, 0, none⟩, n, c), la ++ lb)) := by
  obtain ⟨oa, xa, a1, a2, a3, a4, a5⟩ := h.2.1 0 _ ha
  obtain ⟨ob, xb, b1, b2, b3, b4, b5⟩ := h.2.1 j _ hb
  have hne := h.2.2 0 j _ _ ha hb hj
  simp only at oa xa a1 a2 a3 a4 a5 ob xb b1 b2 b3 b4 b5 hne
  obtain ⟨g3, v3, w3, hr3, o3, hg3, hO3⟩ := run_append_bytes (P := Try.prog) wx 23 23 Try.underlying23 Try.info5 ga _ la oa (· = gb) pb nb cb lb xb (fun hh => absurd hh b5) ob.rd (by omega)
  have hnn : la ++ lb ≠ [] := by simp [a3]
  obtain ⟨c3, rfl, x1, x2, x3⟩ := o3.shape (by
    rintro rfl
    obtain ⟨_, _, hx, _⟩ := o3.form
    injection hx with _ hx _
    exact hnn (List.length_eq_zero_iff.1 hx.symm))
  refine ⟨g3, _, c3, w3, hr3, rfl, below_only h.1 h.1.size hO3 (by intro k hk e; omega), ?_, ?_⟩
  · intro i x hx
    by_cases hi : i = 0
    · subst hi
      rw [List.getElem?_set_self (by have := List.getElem?_eq_some_iff.1 ha; exact this.1)] at hx
      cases hx
      have := h.1.size
      exact ⟨o3, rfl, by rcases hg3 with hh | hh <;> simp only <;> omega, x3, hnn, by rw [List.length_append]; omega, by simp⟩
    · rw [List.getElem?_set_ne (by omega)] at hx
      obtain ⟨a, b, c, d, e, f, g⟩ := h.2.1 i x hx
      have hd : ¬ x.1 = ga := fun hh => h.2.2 i 0 _ _ hx ha hi hh
      exact ⟨a.only hO3 hd, b, c, Nat.lt_of_lt_of_le d hO3.size, e, by omega, g⟩
  · have key : ∀ (i : Nat) (x : Ow), i ≠ 0 → os[i]? = some x → x.1 ≠ g3 := by
      intro i x hi hx
      have h1 := (h.2.1 i x hx).2.2.2.1
      have h2 := h.2.2 i 0 _ _ hx ha hi
      simp only at h2
      rcases hg3 with hh | hh <;> omega
    have hlen := (List.getElem?_eq_some_iff.1 ha).1
    intro i k x y hx hy hik
    by_cases hi : i = 0
    · subst hi
      rw [List.getElem?_set_self hlen] at hx
      rw [List.getElem?_set_ne (by omega)] at hy
      cases hx
      exact fun hh => key k y (by omega) hy hh.symm
    · by_cases hk : k = 0
      · subst hk
        rw [List.getElem?_set_self hlen] at hy
        rw [List.getElem?_set_ne (by omega)] at hx
        cases hy
        exact key i x hi hx
      · rw [List.getElem?_set_ne (by omega)] at hx hy
        exact h.2.2 i k x y hx hy hik

theorem St.step {W0 wx : World} {N : Nat} {os : List Ow} (h : St W0 wx N os) (j : Nat) {ga gb : Nat} {pa pb : Option Addr} {na ca nb cb : Nat} {la lb : List UInt8} (hj : 0 ≠ j) (ha : os[0]? = some (ga, (pa, na, ca), la)) (hb : os[j]? = some (gb, (pb, nb, cb), lb)) (hN : N + N ≤ 140737488355328)
    {ops : Array Oper} {o : Oper} {a : Act} {K : Act → World → Prop} {Q : Exit → Act → World → Prop} {E : Prop} (hgd : o.guard = none) (s x : Operand)
    (ho : (o.op, o.type) = (.call { callee := .builtin .append, args := #[s, x], argTypes := #[23, 23] }, 23)) (hs : a.eval s = .slice pa na ca) (hx : a.eval x = .slice pb nb cb)
    (k : ∀ g n c w', (la ++ lb).length = n → St W0 w' (N + N) (os.set 0 (g, (some ⟨g, 0, none⟩, n, c), la ++ lb)) → K (a.put o.dst (.slice (some ⟨g, 0, none⟩) n c)) w') :
    if Region.wanted o (yielded ops a.tmps) = true then Oper.wp Try.prog o a wx K Q else E := by
  obtain ⟨g, n, c, w', hr, hl, hS⟩ := h.app j hj ha hb hN
  injection ho with h1 h2
  exact step_builtin hgd s x _ _ h1 _ _ hs hx (by rw [h2]; exact hr) (k g n c w' hl hS)

theorem at_alloc {P : Program} {f : FuncId} {args : Array Value} {w : World} {o : Obj} {Q : Ending → World → Prop} (h : Calls P f args (w.alloc o) Q) : Calls P f args (w.alloc o) Q := h
theorem at_alloc_drew {P : Program} {f : FuncId} {args : Array Value} {w : World} {o : Obj} {Q : Ending → World → Prop} (h : Calls P f args (w.alloc o).drew Q) : Calls P f args (w.alloc o).drew Q := h
theorem at_alloc2 {P : Program} {w : World} {ob : Obj} {ops : Array Oper} {o : Oper} {a : Act} {K : Act → World → Prop} {Q : Exit → Act → World → Prop} {E : Prop} (h : if Region.wanted o (yielded ops a.tmps) = true then Oper.wp P o a (w.alloc ob) K Q else E) : if Region.wanted o (yielded ops a.tmps) = true then Oper.wp P o a (w.alloc ob) K Q else E := h
theorem St.cells {W0 wx : World} {N : Nat} {os : List Ow} (h : St W0 wx N os) {a b : Addr} {v u : Value} (hc : (W0.cell? a = some v ∧ W0.cell? b = some u)) (ha : a.block < W0.heap.size ∧ b.block < W0.heap.size) : wx.cell? a = some v ∧ wx.cell? b = some u :=
  ⟨(h.1.cell ha.1).trans hc.1, (h.1.cell ha.2).trans hc.2⟩

end Go.Proofs.Ytegmimnhkohaoaa
/-
  A region that draws its order: one plain list of operations for each order that may be drawn. Of any program; no condition but those that the theorem states.
-/
namespace Go.Kx
open Go.RowKit
/-- All orders that may be drawn. -/
def ords (md : Region.Mode) (ops : Array Oper) : Nat → Array Bool → List (List Nat)
  | 0, _ => [[]]
  | fuel + 1, listed => match Region.ready md ops listed with
    | [] => [[]]
    | i :: rs => (i :: rs).flatMap fun j => (ords md ops fuel (listed.setIfInBounds j true)).map (j :: ·)
theorem lin_ords (md : Region.Mode) (ops : Array Oper) : ∀ (fuel t : Nat) (listed : Array Bool), Region.linearise.go md ops fuel t listed [] ∈ ords md ops fuel listed := by
  intro fuel
  induction fuel with
  | zero => intro t listed; simp [Region.linearise.go, ords]
  | succ fuel ih =>
    intro t listed
    simp only [Region.linearise.go]
    change (match (Region.ready md ops listed)[t % (Region.ready md ops listed).length]? with
      | some i => Region.linearise.go md ops fuel (t / (Region.ready md ops listed).length) (listed.setIfInBounds i true) [i]
      | none => [].reverse) ∈ _
    unfold ords
    cases hr : Region.ready md ops listed with
    | nil => simp
    | cons i rs =>
      simp only
      have hlt : t % (i :: rs).length < (i :: rs).length := Nat.mod_lt _ (by simp)
      rw [List.getElem?_eq_getElem hlt]
      simp only
      rw [linearise_go_acc]
      simp only [List.reverse_cons, List.reverse_nil, List.nil_append, List.singleton_append]
      rw [List.mem_flatMap]
      exact ⟨_, List.getElem_mem hlt, List.mem_map.2 ⟨_, ih _ _, rfl⟩⟩
theorem wp_region_orders {P : Program} {ops : Array Oper} {Q : Exit → Act → World → Prop} {id : Nat} {a : Act} {w : World} (hm : P.follows .mixedOrders = true) (L : List (List Nat))
    (hL : ords .any ops ops.size (Array.replicate ops.size false) = L) (h : ∀ s ∈ L, wpOps P ops Q s a w.drew) : (Code.region id ops true).wp P Q a w := by
  refine wp_region_draw fun t => ?_
  simp only [Region.schedule, hm, Bool.true_or, if_true]
  exact h _ (hL ▸ lin_ords .any ops ops.size t _)
/-- As a list of operations. -/
theorem wpOps_list {P : Program} {ops : Array Oper} {Q : Exit → Act → World → Prop} : ∀ (s : List Nat) (l : List Oper) (a : Act) (w : World), s.map (fun i => ops[i]?) = l.map some → wpList P ops Q l a w → wpOps P ops Q s a w
  | [], l, a, w, h, hw => by
    have : l = [] := by simpa using h.symm
    subst this
    exact hw
  | i :: s, l, a, w, h, hw => by
    cases l with
    | nil => simp at h
    | cons o l =>
      simp only [List.map_cons, List.cons.injEq] at h
      have hk : ∀ a w, wpList P ops Q l a w → wpOps P ops Q s a w := fun a w h2 => wpOps_list s l a w h.2 h2
      rw [wpOps_cons]
      unfold wpOp
      simp only [h.1]
      unfold wpList at hw
      split
      · rename_i hh
        rw [if_pos hh] at hw
        exact hw.imp (Oper.wp_mono hk) id
      · rename_i hh
        rw [if_neg hh] at hw
        exact hk _ _ hw
/-- Three orders: as written; the fifth ahead of the fourth; the fifth ahead of the third. -/
def sw34 : List Oper → List Oper
  | a :: b :: c :: d :: e :: r => a :: b :: c :: e :: d :: r
  | l => l
def sw234 : List Oper → List Oper
  | a :: b :: c :: d :: e :: r => a :: b :: e :: c :: d :: r
  | l => l
theorem wp_region_three {P : Program} {l : List Oper} {Q : Exit → Act → World → Prop} {id : Nat} {a : Act} {w : World} (hm : P.follows .mixedOrders = true) (s1 s2 s3 : List Nat)
    (hL : ords .any l.toArray l.toArray.size (Array.replicate l.toArray.size false) = [s1, s2, s3]) (e1 : s1.map (fun i => l.toArray[i]?) = l.map some) (e2 : s2.map (fun i => l.toArray[i]?) = (sw34 l).map some) (e3 : s3.map (fun i => l.toArray[i]?) = (sw234 l).map some)
    (h1 : wpList P l.toArray Q l a w.drew) (h2 : wpList P l.toArray Q (sw34 l) a w.drew) (h3 : wpList P l.toArray Q (sw234 l) a w.drew) : (Code.region id l.toArray true).wp P Q a w := by
  refine wp_region_orders hm _ hL fun s hs => ?_
  simp only [List.mem_cons, List.not_mem_nil, or_false] at hs
  rcases hs with rfl | rfl | rfl
  · exact wpOps_list _ _ _ _ e1 h1
  · exact wpOps_list _ _ _ _ e2 h2
  · exact wpOps_list _ _ _ _ e3 h3
end Go.Kx
