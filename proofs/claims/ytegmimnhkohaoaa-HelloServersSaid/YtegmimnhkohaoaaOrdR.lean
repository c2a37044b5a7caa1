/-
  A region that draws its order: one plain list of operations for each order that may be drawn. Of any program; no condition but those that the theorem states.
-/
import Derived.Test.YtegmimnhkohaoaaBase
import Derived.Orders
namespace Go.Kx
open Go.RowKit
/-- All orders that may be drawn. -/
def ords (md : Region.Mode) (ops : Array Oper) : Nat → Array Bool → List (List Nat)
  | 0, _ => [[]]
  | fuel + 1, listed => match Region.ready md ops listed with
    | [] => [[]]
    | i :: rs => (i :: rs).flatMap fun j => (ords md ops fuel (listed.setIfInBounds j true)).map (j :: ·)
theorem lin_ords (md : Region.Mode) (ops : Array Oper) : ∀ (fuel t : Nat) (listed : Array Bool), Region.linearise.go md ops fuel t listed [] ∈ ords md ops fuel listed := by
  intro fuel
  induction fuel with
  | zero => intro t listed; simp [Region.linearise.go, ords]
  | succ fuel ih =>
    intro t listed
    simp only [Region.linearise.go]
    change (match (Region.ready md ops listed)[t % (Region.ready md ops listed).length]? with
      | some i => Region.linearise.go md ops fuel (t / (Region.ready md ops listed).length) (listed.setIfInBounds i true) [i]
      | none => [].reverse) ∈ _
    unfold ords
    cases hr : Region.ready md ops listed with
    | nil => simp
    | cons i rs =>
      simp only
      have hlt : t % (i :: rs).length < (i :: rs).length := Nat.mod_lt _ (by simp)
      rw [List.getElem?_eq_getElem hlt]
      simp only
      rw [linearise_go_acc]
      simp only [List.reverse_cons, List.reverse_nil, List.nil_append, List.singleton_append]
      rw [List.mem_flatMap]
      exact ⟨_, List.getElem_mem hlt, List.mem_map.2 ⟨_, ih _ _, rfl⟩⟩
theorem wp_region_orders {P : Program} {ops : Array Oper} {Q : Exit → Act → World → Prop} {id : Nat} {a : Act} {w : World} (hm : P.follows .mixedOrders = true) (L : List (List Nat))
    (hL : ords .any ops ops.size (Array.replicate ops.size false) = L) (h : ∀ s ∈ L, wpOps P ops Q s a w.drew) : (Code.region id ops true).wp P Q a w := by
  refine wp_region_draw fun t => ?_
  simp only [Region.schedule, hm, Bool.true_or, if_true]
  exact h _ (hL ▸ lin_ords .any ops ops.size t _)
/-- As a list of operations. -/
theorem wpOps_list {P : Program} {ops : Array Oper} {Q : Exit → Act → World → Prop} : ∀ (s : List Nat) (l : List Oper) (a : Act) (w : World), s.map (fun i => ops[i]?) = l.map some → wpList P ops Q l a w → wpOps P ops Q s a w
  | [], l, a, w, h, hw => by
    have : l = [] := by simpa using h.symm
    subst this
    exact hw
  | i :: s, l, a, w, h, hw => by
    cases l with
    | nil => simp at h
    | cons o l =>
      simp only [List.map_cons, List.cons.injEq] at h
      have hk : ∀ a w, wpList P ops Q l a w → wpOps P ops Q s a w := fun a w h2 => wpOps_list s l a w h.2 h2
      rw [wpOps_cons]
      unfold wpOp
      simp only [h.1]
      unfold wpList at hw
      split
      · rename_i hh
        rw [if_pos hh] at hw
        exact hw.imp (Oper.wp_mono hk) id
      · rename_i hh
        rw [if_neg hh] at hw
        exact hk _ _ hw
/-- Three orders: as written; the fifth ahead of the fourth; the fifth ahead of the third. -/
def sw34 : List Oper → List Oper
  | a :: b :: c :: d :: e :: r => a :: b :: c :: e :: d :: r
  | l => l
def sw234 : List Oper → List Oper
  | a :: b :: c :: d :: e :: r => a :: b :: e :: c :: d :: r
  | l => l
theorem wp_region_three {P : Program} {l : List Oper} {Q : Exit → Act → World → Prop} {id : Nat} {a : Act} {w : World} (hm : P.follows .mixedOrders = true) (s1 s2 s3 : List Nat)
    (hL : ords .any l.toArray l.toArray.size (Array.replicate l.toArray.size false) = [s1, s2, s3]) (e1 : s1.map (fun i => l.toArray[i]?) = l.map some) (e2 : s2.map (fun i => l.toArray[i]?) = (sw34 l).map some) (e3 : s3.map (fun i => l.toArray[i]?) = (sw234 l).map some)
    (h1 : wpList P l.toArray Q l a w.drew) (h2 : wpList P l.toArray Q (sw34 l) a w.drew) (h3 : wpList P l.toArray Q (sw234 l) a w.drew) : (Code.region id l.toArray true).wp P Q a w := by
  refine wp_region_orders hm _ hL fun s hs => ?_
  simp only [List.mem_cons, List.not_mem_nil, or_false] at hs
  rcases hs with rfl | rfl | rfl
  · exact wpOps_list _ _ _ _ e1 h1
  · exact wpOps_list _ _ _ _ e2 h2
  · exact wpOps_list _ _ _ _ e3 h3
end Go.Kx
