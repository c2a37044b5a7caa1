/-
  The contracts of PutUint and PutVector of package cursor. Conditions: together at most 2 to the 47th bytes.
-/
import Derived.Test.YtegmimnhkohaoaaCurC
namespace Go.Kx
open Go.RowKit
theorem Row.form {w : World} {e : TypeId} {sz g : Nat} {v : Value} {n : Nat} {xs : List Value} (h : Row w e sz g v n xs) :
    ∃ p c, v = .slice p n c ∧ (0 < n → p = some ⟨g, 0, none⟩ ∧ g < w.heap.size) ∧ (∀ j u, xs[j]? = some u → w.cell? ⟨g, j, none⟩ = some u) := by
  obtain ⟨h1, h2⟩ := h
  rcases h1.2 with ⟨hv, h0⟩ | ⟨g', cap, cur, hv, hb, hg, hn, hm, hs, ht⟩
  · subst h0
    have hx : xs = [] := List.eq_nil_of_length_eq_zero (by rw [h1.1]; simp)
    subst hx
    exact ⟨none, 0, hv, by intro h; omega, by intro j u h; simp at h⟩
  · have : g' = g := by rw [hv] at h2; simpa [Value.ownBlock] using h2
    subst this
    refine ⟨_, cap, hv, fun _ => ⟨rfl, (Array.getElem?_eq_some_iff.1 hg).1⟩, fun j u hu => ?_⟩
    have := World.ownsRow.cells h1 (g := g') (by rw [hv]; rfl) j u hu
    rwa [show (⟨g', 0, none⟩ : Addr).add j = ⟨g', j, none⟩ from by unfold Addr.add; split <;> simp_all] at this

end Go.Kx
namespace Go.Proofs.Ytegmimnhkohaoaa
open Go.RowKit Go.Kx

/-- The number n in so many bytes, the greatest first. -/
def be (n : Nat) : Nat → List UInt8
  | 0 => []
  | k + 1 => UInt8.ofNat (n / 256 ^ k) :: be n k
theorem be_length (n k : Nat) : (be n k).length = k := by induction k with
  | zero => rfl
  | succ k ih => simp [be, ih]
/-- Is there room? -/
def putOk (n width : Int) : Prop := (1 ≤ width ∧ width ≤ 4) ∧ 0 ≤ n ∧ n < 256 ^ width.toNat
instance (n width : Int) : Decidable (putOk n width) := by unfold putOk; infer_instance

def PutNo (w : World) (e : Ending) (w' : World) : Prop := e = .returned (.slice none 0 0) ∧ Below w.heap.size w w'
def PutYes (w : World) (l : List UInt8) (e : Ending) (w' : World) : Prop := ∃ g n c, e = .returned (.slice (some ⟨g, 0, none⟩) n c) ∧ l.length = n ∧ w.heap.size ≤ g ∧ g < w'.heap.size ∧ n ≤ c ∧ c ≤ maxLen ∧ Own w' g (.slice (some ⟨g, 0, none⟩) n c) l ∧ Below w.heap.size w w'

theorem put_no (v : Value) (n width : Int) (w : World) (h : ¬ putOk n width) : Calls Try.prog 67 #[v, .int .i64 n, .int .i64 width] w (PutNo w) := by
  by_cases hw : 1 ≤ width ∧ width ≤ 4
  · have hkd : decide (1 ≤ width ∧ width ≤ 4) = true := decide_eq_true hw
    by_cases hn : n < 0
    · go_enter Try.func67, Try.ntmps67
      go_wp2_with (first | (go_at_call 79; refine (right_c width _).mono ?_; rintro e w' ⟨rfl, rfl⟩))
      all_goals go_ret
      all_goals exact ⟨rfl, Below.refl _ _⟩
    · have hc : width = 1 ∨ width = 2 ∨ width = 3 ∨ width = 4 := by omega
      rcases hc with rfl | rfl | rfl | rfl
      all_goals
        have hb : ¬ n < 256 ^ Int.toNat _ := fun hh => h ⟨hw, by omega, hh⟩
        simp at hb
        go_enter Try.func67, Try.ntmps67
        go_wp2_with (first | (go_at_call 79; refine (right_c _ _).mono ?_; rintro e w' ⟨rfl, rfl⟩))
        all_goals go_ret
        all_goals exact ⟨rfl, Below.refl _ _⟩
  · have hkd : decide (1 ≤ width ∧ width ≤ 4) = false := decide_eq_false hw
    go_enter Try.func67, Try.ntmps67
    go_wp2_with (first | (go_at_call 79; refine (right_c width _).mono ?_; rintro e w' ⟨rfl, rfl⟩))
    all_goals go_ret
    all_goals exact ⟨rfl, Below.refl _ _⟩

theorem cell_one (w : World) (x : Value) (t : TypeId) : ∀ j u, [x][j]? = some u → (w.alloc (.cells #[x] t)).cell? ((⟨w.heap.size, 0, none⟩ : Addr).add j) = some u := by
  intro j u hu
  cases j with
  | zero => simp at hu; subst hu; simp [Addr.add, World.cell?_alloc_at]
  | succ j => simp at hu
/-- One byte more behind a row. -/
theorem own_snoc {w : World} {g : Nat} {v : Value} {l : List UInt8} {X : Int} (b : UInt8) (h : Row w 5 1 g v (l.length + 1) (l.map B8 ++ [.int .u8 X])) (hb : X = (b.toNat : Int)) : Own w g v (l ++ [b]) := by
  unfold Own
  subst hb
  rw [List.length_append, List.map_append]
  exact h

/-- One round of PutUint. -/
def PRel (w : World) (l : List UInt8) (n W : Nat) (v7 v8 : Value) (wr : World) : Prop :=
  ∃ (k : Nat) (z : Int) (g : Nat) (dn : List UInt8), v8 = .int .i64 z ∧ z = (k : Int) - 1 ∧ k ≤ W ∧ w.heap.size ≤ g ∧ (k < W → g < wr.heap.size) ∧ Own wr g v7 (l ++ dn) ∧ dn ++ be n k = be n W ∧ Below w.heap.size w wr

set_option maxHeartbeats 4000000 in
set_option maxRecDepth 100000 in
theorem put_yes (S : Nat → Prop) (p : Option Addr) (m c : Nat) (l : List UInt8) (n W : Nat) (w : World) (hR : Rd w S p l) (hp : p = none → c = 0) (hl : l.length + 4 ≤ 140737488355328) (hm : l.length = m) (hW : 1 ≤ W ∧ W ≤ 4) (hn : n < 256 ^ W) :
    Calls Try.prog 67 #[.slice p m c, .int .i64 (n : Int), .int .i64 (W : Int)] w (PutYes w (l ++ be n W)) := by
  subst hm
  have hkd : decide (1 ≤ (W : Int) ∧ (W : Int) ≤ 4) = true := decide_eq_true (by omega)
  have hc : W = 1 ∨ W = 2 ∨ W = 3 ∨ W = 4 := by omega
  have hn4 : n < 4294967296 := Nat.lt_of_lt_of_le hn (Nat.le_trans (Nat.pow_le_pow_right (by decide) hW.2) (by decide))
  suffices H : ∀ V, V = W → Calls Try.prog 67 #[.slice p l.length c, .int .i64 (n : Int), .int .i64 (W : Int)] w (PutYes w (l ++ be n V)) from H W rfl
  intro V hV
  have hV4 : 1 ≤ V ∧ V ≤ 4 := by omega
  rcases hc with rfl | rfl | rfl | rfl
  all_goals
    simp at hn
    go_enter Try.func67, Try.ntmps67
    go_wp2_with (first
      | (go_at_call 79; refine (right_c _ _).mono ?_; rintro e w' ⟨rfl, rfl⟩)
      | (go_at_call 76; refine (clone_any S _ _ _ l _ hR hp (by omega) rfl).mono ?_; rintro e w2 ⟨⟨g', p', c', rfl, h1, h2, h3, h4⟩, h5⟩))
    have HB := Lib.hid h4
    have H3 := Lib.hid h3
    clear h3 h4 h5 hR
  all_goals
    go_loopw [7, 8] (fun v7 v8 wr => PRel w l n V v7 v8 wr) (fun _ v8 _ => (intOf v8 + 1).toNat)
    case atStart => exact ⟨V, _, g', [], rfl, by omega, by omega, h1, by omega, by simpa using H3.out, by simp, HB.out⟩
    case round =>
      clear hkd hW
      obtain ⟨k, z, g, dn, rfl, hz, hk, hg, hgl, hO, hdn, hB⟩ := hrel
      have HO := Lib.hid hO
      have HDN := Lib.hid hdn
      have HBB := Lib.hid hB
      have hdl : dn.length + k ≤ 4 := by
        have := congrArg List.length hdn
        rw [List.length_append, be_length, be_length] at this
        omega
      clear hO hdn hB
      by_cases hk0 : k = 0
      · subst hk0
        obtain rfl : z = -1 := by omega
        clear hz hk
        obtain ⟨p2, c2, rfl, e1, e2, e3, e4, e5⟩ := HO.out.form
        go_wp2
        go_ret
        have hd : dn = be n V := by have := HDN.out; simpa [be] using this
        subst hd
        cases p2 with
        | none => have h0 := congrArg List.length e3.none_nil; rw [List.length_append, be_length] at h0; simp at h0; omega
        | some a =>
          obtain ⟨rfl, hlt⟩ := e5 a rfl
          exact ⟨g, _, c2, rfl, rfl, hg, hlt, e1, e2, HO.out, HBB.out⟩
      · obtain ⟨j, rfl⟩ : ∃ j, k = j + 1 := ⟨k - 1, by omega⟩
        have hj : (j = 0 ∧ z = 0) ∨ (j = 1 ∧ z = 1) ∨ (j = 2 ∧ z = 2) ∨ (j = 3 ∧ z = 3) := by omega
        have HK := Lib.hid hk
        clear hk
        rcases hj with ⟨hj, rfl⟩ | ⟨hj, rfl⟩ | ⟨hj, rfl⟩ | ⟨hj, rfl⟩
        all_goals
          clear hz
          have HJ := Lib.hid hj
          clear hj
          go_wp2_with (at_builtin; refine wpList_append_row rfl _ _ 23 rfl 5 (.int .u8 0) 1 1 Try.underlying23 Try.info5 rfl (by decide) g u7 (l ++ dn).length ((l ++ dn).map B8) rfl (Row.only HO.out ((Only.refl (fun _ => False) wr).alloc _) (fun h => h)) ⟨wr.heap.size, 0, none⟩ 1 1 [_] rfl rfl (cell_one wr _ _) (by simp [Value.oneCell']) (by simp only [maxLen, List.length_append]; omega) (by simp only [List.length_append]; omega) (wr.heap.size + 1) (by simp) ?_; intro gB' v7' w7 hrow hg' hO7)
          have z7 := hO7.size
          simp only [World.size_alloc] at z7
          have hb7 := below_only (HBB.out.alloc HBB.out.size _) (by simp; have := HBB.out.size; omega) hO7 (by intro k hk e; omega)
          have hs : w.heap.size ≤ wr.heap.size := HBB.out.size
          obtain ⟨_, _, _, hf, _⟩ := Row.form hrow
          refine ⟨⟨j, _, gB', dn ++ [UInt8.ofNat (n / 256 ^ j)], rfl, by have := HJ.out; omega, by have := HK.out; omega, by omega, fun _ => (hf (by omega)).2, ?_, by rw [List.append_assoc]; exact HDN.out, hb7⟩, by simp [intOf]⟩
          rw [← List.append_assoc]
          refine own_snoc _ hrow ?_
          rw [HJ.out, UInt8.toNat_ofNat']
          omega
end Go.Proofs.Ytegmimnhkohaoaa
