/-
  The bodies of a chain, of a ticket and of a signature as bytes: plain lists. Conditions: those of each theorem.
-/
import Derived.Test.YtkgeecejgpekkaaMsgW
namespace Go.Proofs.Ytkgeecejgpekkaa
open Go.RowKit Go.Kx
set_option linter.unusedVariables false
set_option linter.unusedSimpArgs false

theorem wU_ok {x : WS} {n W : Nat} (hW : 1 ≤ W ∧ W ≤ 4) (hn : n < 256 ^ W) : wU x (n : Int) (W : Int) = (x.1 ++ be n W, x.2) := by
  have h : putOk (n : Int) (W : Int) := by
    refine ⟨by omega, by omega, ?_⟩
    rw [Int.toNat_natCast]
    have e : ((256 : Int) ^ W) = ((256 ^ W : Nat) : Int) := by rw [Int.natCast_pow]; rfl
    rw [e]
    exact Int.ofNat_lt.2 hn
  unfold wU
  rw [if_pos h]
  simp
theorem wV_ok {x : WS} {v : List UInt8} {W : Nat} {l u : Int} (hW : 1 ≤ W ∧ W ≤ 4) (hn : v.length < 256 ^ W) (h1 : l ≤ (v.length : Int)) (h2 : (v.length : Int) ≤ u) : wV x v (W : Int) l u = (x.1 ++ (be v.length W ++ v), x.2) := by
  have h : putOk (v.length : Int) (W : Int) := by
    refine ⟨by omega, by omega, ?_⟩
    rw [Int.toNat_natCast]
    have e : ((256 : Int) ^ W) = ((256 ^ W : Nat) : Int) := by rw [Int.natCast_pow]; rfl
    rw [e]
    exact Int.ofNat_lt.2 hn
  unfold wV
  rw [if_pos h]
  simp [h1, h2]
theorem wU_bad {x : WS} (h : x.2 = true) (n W : Int) : (wU x n W).2 = true := by unfold wU; split <;> simp [h]
theorem wV_bad {x : WS} (h : x.2 = true) (v : List UInt8) (W l u : Int) : (wV x v W l u).2 = true := by unfold wV; split <;> simp [h]
theorem wU_no {x : WS} {n W : Int} (h : ¬ putOk n W) : (wU x n W).2 = true := by unfold wU; rw [if_neg h]
theorem wV_no {x : WS} {v : List UInt8} {W l u : Int} (h : ¬ (l ≤ (v.length : Int) ∧ (v.length : Int) ≤ u)) : (wV x v W l u).2 = true := by
  unfold wV
  split
  · simp only [Bool.or_eq_true, Bool.not_eq_true', Bool.and_eq_false_iff, decide_eq_false_iff_not]
    omega
  · rfl
theorem wU_len (x : WS) (n W : Int) : (wU x n W).1.length ≤ x.1.length + 4 := by
  unfold wU
  split
  · rename_i h
    obtain ⟨h1, _⟩ := h
    simp only [List.length_append, be_length]
    omega
  · simp
theorem wV_len (x : WS) (v : List UInt8) (W l u : Int) : (wV x v W l u).1.length ≤ x.1.length + 4 + v.length := by
  unfold wV
  split
  · rename_i h
    obtain ⟨h1, _⟩ := h
    simp only [List.length_append, be_length]
    omega
  · simp

/-! ### A chain -/
def wC (x : WS) (v : List UInt8) : WS := wV (wV x v 3 1 300) [] 2 0 0
def inS (l : List (List UInt8)) : WS := l.foldl wC ([], false)
def okC (l : List (List UInt8)) : Prop := (1 ≤ l.length ∧ l.length ≤ 4) ∧ ∀ v ∈ l, 1 ≤ v.length ∧ v.length ≤ 300
instance (l : List (List UInt8)) : Decidable (okC l) := by unfold okC; infer_instance
def chB (v : List UInt8) : List UInt8 := be v.length 3 ++ (v ++ be 0 2)
def chI : List (List UInt8) → List UInt8
  | [] => []
  | v :: l => chB v ++ chI l
def chX (l : List (List UInt8)) : List UInt8 := be 0 1 ++ (be (chI l).length 3 ++ chI l)
def tot : List (List UInt8) → Nat
  | [] => 0
  | v :: l => v.length + 8 + tot l
theorem wC_ok {x : WS} {v : List UInt8} (h : 1 ≤ v.length ∧ v.length ≤ 300) : wC x v = (x.1 ++ chB v, x.2) := by
  unfold wC
  have e1 := wV_ok (x := x) (v := v) (W := 3) (l := 1) (u := 300) (by omega) (by omega) (by omega) (by omega)
  rw [show ((3 : Nat) : Int) = 3 by rfl] at e1
  have e2 := wV_ok (x := (x.1 ++ (be v.length 3 ++ v), x.2)) (v := []) (W := 2) (l := 0) (u := 0) (by omega) (by simp) (by simp) (by simp)
  rw [show ((2 : Nat) : Int) = 2 by rfl] at e2
  rw [e1, e2]
  simp [chB]
theorem wC_bad {x : WS} {v : List UInt8} (h : x.2 = true ∨ ¬ (1 ≤ v.length ∧ v.length ≤ 300)) : (wC x v).2 = true := by
  unfold wC
  refine wV_bad ?_ _ _ _ _
  rcases h with h | h
  · exact wV_bad h _ _ _ _
  · exact wV_no (by omega)
theorem wC_len (x : WS) (v : List UInt8) : (wC x v).1.length ≤ x.1.length + 8 + v.length := by
  unfold wC
  have h1 := wV_len (wV x v 3 1 300) [] 2 0 0
  have h2 := wV_len x v 3 1 300
  simp at h1
  omega
theorem fold_ok : ∀ (l : List (List UInt8)) (x : WS), (∀ v ∈ l, 1 ≤ v.length ∧ v.length ≤ 300) → l.foldl wC x = (x.1 ++ chI l, x.2)
  | [], x, _ => by simp [chI]
  | v :: l, x, h => by
    rw [List.foldl_cons, wC_ok (h v (List.mem_cons_self)), fold_ok l _ (fun u hu => h u (List.mem_cons_of_mem _ hu))]
    simp [chI]
theorem fold_bad : ∀ (l : List (List UInt8)) (x : WS), x.2 = true ∨ (∃ v ∈ l, ¬ (1 ≤ v.length ∧ v.length ≤ 300)) → (l.foldl wC x).2 = true
  | [], x, h => by
    rcases h with h | ⟨v, hv, _⟩
    · exact h
    · cases hv
  | v :: l, x, h => by
    rw [List.foldl_cons]
    refine fold_bad l _ ?_
    rcases h with h | ⟨u, hu, hh⟩
    · exact .inl (wC_bad (.inl h))
    · rcases List.mem_cons.1 hu with rfl | hu
      · exact .inl (wC_bad (.inr hh))
      · exact .inr ⟨u, hu, hh⟩
theorem fold_len : ∀ (l : List (List UInt8)) (x : WS), (l.foldl wC x).1.length ≤ x.1.length + tot l
  | [], x => by simp [tot]
  | v :: l, x => by
    have h1 := fold_len l (wC x v)
    have h2 := wC_len x v
    rw [List.foldl_cons]
    simp only [tot]
    omega
theorem tot_take : ∀ (l : List (List UInt8)) (k : Nat), tot (l.take k) ≤ tot l
  | [], k => by simp [tot]
  | v :: l, 0 => by simp [tot]
  | v :: l, k + 1 => by
    have := tot_take l k
    simp only [List.take_succ_cons, tot]
    omega
theorem tot_mem {l : List (List UInt8)} {v : List UInt8} (h : v ∈ l) : v.length ≤ tot l := by
  induction l with
  | nil => cases h
  | cons u l ih =>
    simp only [tot]
    rcases List.mem_cons.1 h with rfl | h
    · omega
    · have := ih h; omega

/-- What PutChain comes to. -/
def putC (l : List (List UInt8)) : WS := wV (wU ([], (inS l).2 || decide ((l.length : Int) < 1) || decide ((4 : Int) < (l.length : Int))) 0 1) (inS l).1 3 0 16777216
theorem chI_len {l : List (List UInt8)} (h : okC l) : (chI l).length ≤ 1220 := by
  have key : ∀ l : List (List UInt8), (∀ v ∈ l, 1 ≤ v.length ∧ v.length ≤ 300) → (chI l).length ≤ 305 * l.length := by
    intro l
    induction l with
    | nil => intro _; simp [chI]
    | cons v l ih =>
      intro h
      have h1 := ih (fun u hu => h u (List.mem_cons_of_mem _ hu))
      have h2 := h v (List.mem_cons_self)
      simp only [chI, chB, List.length_append, be_length, List.length_cons]
      omega
  have := key l h.2
  have := h.1.2
  omega
theorem putC_ok {l : List (List UInt8)} (h : okC l) : putC l = (chX l, false) := by
  have h1 := fold_ok l ([], false) h.2
  have h2 := h.1
  have h3 := chI_len h
  unfold putC inS
  rw [h1]
  have e1 := wU_ok (x := ([], false)) (n := 0) (W := 1) (by omega) (by decide)
  rw [show ((1 : Nat) : Int) = 1 by rfl, show ((0 : Nat) : Int) = 0 by rfl] at e1
  have e2 := wV_ok (x := ([] ++ be 0 1, false)) (v := chI l) (W := 3) (l := 0) (u := 16777216) (by omega) (by omega) (by omega) (by omega)
  rw [show ((3 : Nat) : Int) = 3 by rfl] at e2
  have e3 : decide ((l.length : Int) < 1) = false := decide_eq_false (by omega)
  have e4 : decide ((4 : Int) < (l.length : Int)) = false := decide_eq_false (by omega)
  simp only [List.nil_append, e3, e4, Bool.or_false] at e1 e2 ⊢
  rw [e1, e2]
  rfl
theorem putC_no {l : List (List UInt8)} (h : ¬ okC l) : (putC l).2 = true := by
  unfold putC
  refine wV_bad (wU_bad ?_ _ _) _ _ _ _
  by_cases h1 : 1 ≤ l.length ∧ l.length ≤ 4
  · have h2 : ∃ v ∈ l, ¬ (1 ≤ v.length ∧ v.length ≤ 300) := by
      refine Classical.byContradiction fun hc => h ⟨h1, fun v hv => Classical.byContradiction fun hh => hc ⟨v, hv, hh⟩⟩
    have h3 : (inS l).2 = true := fold_bad l ([], false) (.inr h2)
    simp [h3]
  · have h2 : (l.length : Int) < 1 ∨ (4 : Int) < (l.length : Int) := by omega
    rcases h2 with h2 | h2 <;> simp [h2]

/-! ### A ticket, a signature -/
def putN (life add : Int) (no tk : List UInt8) : WS := wV (wV (wV (wU (wU ([], false) life 4) add 4) no 1 0 8) tk 2 1 255) [] 2 0 0
def okN (life add : Int) (no tk : List UInt8) : Prop := (0 ≤ life ∧ life < 4294967296) ∧ (0 ≤ add ∧ add < 4294967296) ∧ no.length ≤ 8 ∧ (1 ≤ tk.length ∧ tk.length ≤ 255)
instance (life add : Int) (no tk : List UInt8) : Decidable (okN life add no tk) := by unfold okN; infer_instance
def nwX (life add : Int) (no tk : List UInt8) : List UInt8 := be life.toNat 4 ++ (be add.toNat 4 ++ (be no.length 1 ++ (no ++ (be tk.length 2 ++ (tk ++ be 0 2)))))
theorem putN_ok {life add : Int} {no tk : List UInt8} (h : okN life add no tk) : putN life add no tk = (nwX life add no tk, false) := by
  obtain ⟨⟨a1, a2⟩, ⟨b1, b2⟩, c, d1, d2⟩ := h
  obtain ⟨L, rfl⟩ : ∃ L : Nat, life = L := ⟨life.toNat, by omega⟩
  obtain ⟨A, rfl⟩ : ∃ A : Nat, add = A := ⟨add.toNat, by omega⟩
  have e1 := wU_ok (x := ([], false)) (n := L) (W := 4) (by omega) (by simp only [Nat.reducePow]; omega)
  have e2 := fun x : WS => wU_ok (x := x) (n := A) (W := 4) (by omega) (by simp only [Nat.reducePow]; omega)
  have e3 := fun x : WS => wV_ok (x := x) (v := no) (W := 1) (l := 0) (u := 8) (by omega) (by simp only [Nat.reducePow]; omega) (by omega) (by omega)
  have e4 := fun x : WS => wV_ok (x := x) (v := tk) (W := 2) (l := 1) (u := 255) (by omega) (by simp only [Nat.reducePow]; omega) (by omega) (by omega)
  have e5 := fun x : WS => wV_ok (x := x) (v := []) (W := 2) (l := 0) (u := 0) (by omega) (by simp) (by simp) (by simp)
  rw [show ((4 : Nat) : Int) = 4 by rfl] at e1
  simp only [show ((4 : Nat) : Int) = 4 by rfl, show ((1 : Nat) : Int) = 1 by rfl, show ((2 : Nat) : Int) = 2 by rfl] at e2 e3 e4 e5
  unfold putN
  rw [e1, e2, e3, e4, e5]
  simp [nwX]
theorem big4 {x : Int} (h : ¬ (0 ≤ x ∧ x < 4294967296)) : ¬ putOk x 4 := by
  rintro ⟨_, h1, h2⟩
  have e : ((256 : Int) ^ (4 : Int).toNat) = 4294967296 := by decide
  rw [e] at h2
  exact h ⟨h1, h2⟩
theorem putN_no {life add : Int} {no tk : List UInt8} (h : ¬ okN life add no tk) : (putN life add no tk).2 = true := by
  unfold putN
  refine wV_bad ?_ _ _ _ _
  by_cases h4 : 1 ≤ tk.length ∧ tk.length ≤ 255
  · refine wV_bad ?_ _ _ _ _
    by_cases h3 : no.length ≤ 8
    · refine wV_bad ?_ _ _ _ _
      by_cases h2 : 0 ≤ add ∧ add < 4294967296
      · refine wU_bad ?_ _ _
        by_cases h1 : 0 ≤ life ∧ life < 4294967296
        · exact absurd ⟨h1, h2, h3, h4⟩ h
        · exact wU_no (big4 h1)
      · exact wU_no (big4 h2)
    · exact wV_no (by omega)
  · exact wV_no (by omega)
def putY (sc : Int) (sg : List UInt8) : WS := wV (wU ([], false) sc 2) sg 2 1 100
def okY (sc : Int) (sg : List UInt8) : Prop := (0 ≤ sc ∧ sc < 65536) ∧ (1 ≤ sg.length ∧ sg.length ≤ 100)
instance (sc : Int) (sg : List UInt8) : Decidable (okY sc sg) := by unfold okY; infer_instance
def vfX (sc : Int) (sg : List UInt8) : List UInt8 := be sc.toNat 2 ++ (be sg.length 2 ++ sg)
theorem putY_ok {sc : Int} {sg : List UInt8} (h : okY sc sg) : putY sc sg = (vfX sc sg, false) := by
  obtain ⟨⟨a1, a2⟩, d1, d2⟩ := h
  obtain ⟨L, rfl⟩ : ∃ L : Nat, sc = L := ⟨sc.toNat, by omega⟩
  have e1 := wU_ok (x := ([], false)) (n := L) (W := 2) (by omega) (by simp only [Nat.reducePow]; omega)
  have e4 := fun x : WS => wV_ok (x := x) (v := sg) (W := 2) (l := 1) (u := 100) (by omega) (by simp only [Nat.reducePow]; omega) (by omega) (by omega)
  simp only [show ((2 : Nat) : Int) = 2 by rfl] at e1 e4
  unfold putY
  rw [e1, e4]
  simp [vfX]
theorem putY_no {sc : Int} {sg : List UInt8} (h : ¬ okY sc sg) : (putY sc sg).2 = true := by
  unfold putY
  by_cases h2 : 1 ≤ sg.length ∧ sg.length ≤ 100
  · refine wV_bad (wU_no ?_) _ _ _ _
    rintro ⟨_, h1, h3⟩
    have e : ((256 : Int) ^ (2 : Int).toNat) = 65536 := by decide
    rw [e] at h3
    exact h ⟨⟨h1, h3⟩, h2⟩
  · exact wV_no (by omega)
end Go.Proofs.Ytkgeecejgpekkaa
