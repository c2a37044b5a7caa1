/-
  The contracts of hello.counted, numbers, keys and offered. Condition: at most 2 to the 46th bytes.
-/
import Derived.Test.YtegmimnhkohaoaaZHelNA
import Derived.Test.YtegmimnhkohaoaaZg5
import Derived.Test.YtegmimnhkohaoaaZg4
namespace Go.Proofs.Ytegmimnhkohaoaa
open Go.RowKit Go.Kx
set_option linter.unusedVariables false
set_option linter.unusedSimpArgs false
set_option maxRecDepth 100000

def cntB (bad : Int) (n : Nat) (most : Int) : Int := if (n : Int) < 1 ∨ most < (n : Int) then rm bad 3 else bad
theorem counted_c (r g : Nat) (s : List UInt8) (bad : Int) (n : Nat) (most : Int) (w : World) (hr : Cur w r g s bad) : Calls Try.prog 100 #[rp r, .int .i64 (n : Int), .int .i64 most] w (CurR w r g (s, cntB bad n most)) := by
  by_cases h1 : (n : Int) < 1
  · have hc : cntB bad n most = rm bad 3 := if_pos (.inl h1)
    rw [hc]
    clear hc
    go_enter Try.func100, Try.ntmps100
    go_wp2_with (go_at_call 49; refine (fail_c r g s bad _ hr).mono ?_; rintro e w2 ⟨rfl, hc2, ho2⟩)
    go_end0
    exact ⟨rfl, hc2, ho2⟩
  · by_cases h2 : most < (n : Int)
    · have hc : cntB bad n most = rm bad 3 := if_pos (.inr h2)
      rw [hc]
      clear hc
      go_enter Try.func100, Try.ntmps100
      go_wp2_with (go_at_call 49; refine (fail_c r g s bad _ hr).mono ?_; rintro e w2 ⟨rfl, hc2, ho2⟩)
      go_end0
      exact ⟨rfl, hc2, ho2⟩
    · have hc : cntB bad n most = bad := if_neg (by rintro (h | h); exact h1 h; exact h2 h)
      rw [hc]
      clear hc
      go_enter Try.func100, Try.ntmps100
      go_wp2
      go_end0
      exact ⟨rfl, hr, Only.refl _ _⟩

/-- What within reads by one element after another. -/
def readS {α : Type} (F : List UInt8 → α × List UInt8 × Int) (s : List UInt8) (bad W : Int) : List α × List UInt8 × Int :=
  ((loopL F ((vecS s bad W 0 65535).1.length + 1) (vecS s bad W 0 65535).1 0).1, (vecS s bad W 0 65535).2.1, insB (vecS s bad W 0 65535).2.2 (loopL F ((vecS s bad W 0 65535).1.length + 1) (vecS s bad W 0 65535).1 0).2)
def numsS (s : List UInt8) (bad W most : Int) : List Int × List UInt8 × Int := ((readS uF s bad W).1, (readS uF s bad W).2.1, cntB (readS uF s bad W).2.2 (readS uF s bad W).1.length most)
def keysS (s : List UInt8) (bad : Int) : List (Int × List UInt8) × List UInt8 × Int := ((readS kF s bad 2).1, (readS kF s bad 2).2.1, cntB (readS kF s bad 2).2.2 (readS kF s bad 2).1.length 4)
def offS (s : List UInt8) (bad : Int) : (List (List UInt8 × Int) × List (List UInt8)) × List UInt8 × Int :=
  let x := readS iF s bad 2
  let y := readS bF x.2.1 x.2.2 2
  ((x.1, y.1), y.2.1, if x.1.length = y.1.length then cntB y.2.2 x.1.length 4 else rm (cntB y.2.2 x.1.length 4) 3)
theorem outS_most (s : List UInt8) (bad : Int) (n : Nat) : (outS s bad (n : Int)).length ≤ n := by
  unfold outS
  split
  · rw [List.length_take, Int.toNat_natCast]; omega
  · simp
theorem vecS_short (s : List UInt8) (bad W l : Int) (m : Nat) : (vecS s bad W l m).1.length ≤ m := by
  unfold vecS
  simp only
  split
  · simp
  · rename_i h
    generalize leftS s (wb bad W) W = s1 at *
    generalize badS s (wb bad W) W = b1 at *
    generalize beN (outS s (wb bad W) W) = n at *
    by_cases hb : badS s1 b1 (n : Int) = 0
    · have h2 : (outS s1 b1 (n : Int)).length ≤ n := outS_most s1 b1 n
      have : ¬ ((m : Int) < (n : Int)) := fun hh => h ⟨hb, .inr hh⟩
      show (outS s1 b1 (n : Int)).length ≤ m
      omega
    · show (outS s1 b1 (n : Int)).length ≤ m
      unfold outS
      rw [if_neg hb]
      simp

def SlI (w : World) (S : Nat → Prop) (p : Option Addr) (n c : Nat) (l : List Int) : Prop := l.length = n ∧ RdI w S p l ∧ (p = none → c = 0) ∧ n ≤ c ∧ c ≤ maxLen
def SlSh (w : World) (S : Nat → Prop) (p : Option Addr) (n c : Nat) (l : List (Int × List UInt8)) : Prop := l.length = n ∧ ShAt w S p l ∧ (p = none → c = 0) ∧ n ≤ c ∧ c ≤ maxLen
def SlId (w : World) (S : Nat → Prop) (p : Option Addr) (n c : Nat) (l : List (List UInt8 × Int)) : Prop := l.length = n ∧ IdAt w S p l ∧ (p = none → c = 0) ∧ n ≤ c ∧ c ≤ maxLen
def SlBd (w : World) (S : Nat → Prop) (p : Option Addr) (n c : Nat) (l : List (List UInt8)) : Prop := l.length = n ∧ BdAt w S p l ∧ (p = none → c = 0) ∧ n ≤ c ∧ c ≤ maxLen
theorem SlI.of {w : World} {bc t e M : Nat} {A : List Int} (h : Held NuL w bc t e 1 M A) : ∃ p c, Var w bc t (.slice p A.length c) ∧ SlI w (fun k => M ≤ k) p A.length c A := by
  obtain ⟨p, c, g, L, h1, h2, h3, h4, h5⟩ := h
  obtain ⟨p', c', he, h6, h7⟩ := h4.at h2
  cases he
  exact ⟨p, c, h1, rfl, RdV.mono h6 (fun k _ hk => by rcases hk with hk | hk; exact hk.1; omega), h7⟩
theorem SlSh.of {w : World} {bc t e M : Nat} {A : List (Int × List UInt8)} (h : Held ShL w bc t e 2 M A) : ∃ p c, Var w bc t (.slice p A.length c) ∧ SlSh w (fun k => M ≤ k) p A.length c A := by
  obtain ⟨p, c, g, L, h1, h2, h3, h4, h5⟩ := h
  obtain ⟨p', c', he, h6, h7⟩ := h4.at h2
  cases he
  exact ⟨p, c, h1, rfl, h6.mono (fun k _ hk => by rcases hk with hk | hk; exact hk.1; omega), h7⟩
theorem SlId.of {w : World} {bc t e M : Nat} {A : List (List UInt8 × Int)} (h : Held IdL w bc t e 2 M A) : ∃ p c, Var w bc t (.slice p A.length c) ∧ SlId w (fun k => M ≤ k) p A.length c A := by
  obtain ⟨p, c, g, L, h1, h2, h3, h4, h5⟩ := h
  obtain ⟨p', c', he, h6, h7⟩ := h4.at h2
  cases he
  exact ⟨p, c, h1, rfl, h6.mono (fun k _ hk => by rcases hk with hk | hk; exact hk.1; omega), h7⟩
theorem SlBd.of {w : World} {bc t e M : Nat} {A : List (List UInt8)} (h : Held BdL w bc t e 1 M A) : ∃ p c, Var w bc t (.slice p A.length c) ∧ SlBd w (fun k => M ≤ k) p A.length c A := by
  obtain ⟨p, c, g, L, h1, h2, h3, h4, h5⟩ := h
  obtain ⟨p', c', he, h6, h7⟩ := h4.at h2
  cases he
  exact ⟨p, c, h1, rfl, h6.mono (fun k _ hk => by rcases hk with hk | hk; exact hk.1; omega), h7⟩
section
variable {w w' : World} {S T X : Nat → Prop} {p : Option Addr} {n c : Nat}
theorem SlI.only {l : List Int} (h : SlI w S p n c l) (ho : Only X w w') (hX : ∀ k, S k → ¬ X k) : SlI w' S p n c l := ⟨h.1, RdV.only h.2.1 ho hX, h.2.2⟩
theorem SlSh.only {l : List (Int × List UInt8)} (h : SlSh w S p n c l) (ho : Only X w w') (hX : ∀ k, S k → ¬ X k) : SlSh w' S p n c l := ⟨h.1, h.2.1.only ho hX, h.2.2⟩
theorem SlId.only {l : List (List UInt8 × Int)} (h : SlId w S p n c l) (ho : Only X w w') (hX : ∀ k, S k → ¬ X k) : SlId w' S p n c l := ⟨h.1, h.2.1.only ho hX, h.2.2⟩
theorem SlBd.only {l : List (List UInt8)} (h : SlBd w S p n c l) (ho : Only X w w') (hX : ∀ k, S k → ¬ X k) : SlBd w' S p n c l := ⟨h.1, h.2.1.only ho hX, h.2.2⟩
theorem SlI.mono {l : List Int} (h : SlI w S p n c l) (hT : ∀ k, k < w.heap.size → S k → T k) : SlI w T p n c l := ⟨h.1, RdV.mono h.2.1 hT, h.2.2⟩
theorem SlSh.mono {l : List (Int × List UInt8)} (h : SlSh w S p n c l) (hT : ∀ k, k < w.heap.size → S k → T k) : SlSh w T p n c l := ⟨h.1, h.2.1.mono hT, h.2.2⟩
theorem SlId.mono {l : List (List UInt8 × Int)} (h : SlId w S p n c l) (hT : ∀ k, k < w.heap.size → S k → T k) : SlId w T p n c l := ⟨h.1, h.2.1.mono hT, h.2.2⟩
theorem SlBd.mono {l : List (List UInt8)} (h : SlBd w S p n c l) (hT : ∀ k, k < w.heap.size → S k → T k) : SlBd w T p n c l := ⟨h.1, h.2.1.mono hT, h.2.2⟩
end
def NumR {α : Type} (Sl : World → (Nat → Prop) → Option Addr → Nat → Nat → List α → Prop) (w : World) (r g : Nat) (y : List α × List UInt8 × Int) (e : Ending) (w' : World) : Prop :=
  ∃ p n c, e = .returned (.slice p n c) ∧ Sl w' (fun k => w.heap.size ≤ k) p n c y.1 ∧ Cur w' r g y.2.1 y.2.2 ∧ Only (· = r) w w'

set_option maxHeartbeats 4000000 in
theorem numbers_c (r g : Nat) (s : List UInt8) (bad W most : Int) (w : World) (hr : Cur w r g s bad) (hl : s.length ≤ 140737488355328) : Calls Try.prog 54 #[rp r, .int .i64 W, .int .i64 most] w (NumR SlI w r g (numsS s bad W most)) := by
  obtain ⟨w1, hw1⟩ : ∃ w1, w1 = w.alloc (.cells #[.slice none 0 0] 43) := ⟨_, rfl⟩
  have hz1 : w1.heap.size = w.heap.size + 1 := by rw [hw1]; exact World.size_alloc _ _
  have hV1 : Var w1 w.heap.size 43 (.slice none 0 0) := by rw [hw1]; exact Var.new _ _ _
  have ho1 : Only (fun _ => False) w w1 := by rw [hw1]; exact (Only.refl _ _).alloc _
  have hrl := hr.lt
  have hgl := hr.glt
  have hsh : (vecS s bad W 0 65535).1.length ≤ 65535 := vecS_short s bad W 0 65535
  have hIN := within_c r g s bad W _ _ _ _ _ _ w1 (hr.only ho1 (fun h => h) (fun h => h)) hl
    (fun w' ho' => hV1.only ho' (by omega)) (fun wa wb hj ho' => hj.only nuK ho' (by omega) (by intro k hk e; omega))
    (num1_c w1.heap.size w.heap.size (vecS s bad W 0 65535).1 (by omega) (by omega)) (by omega) (by omega)
  have hy : numsS s bad W most = ((readS uF s bad W).1, (readS uF s bad W).2.1, cntB (readS uF s bad W).2.2 (readS uF s bad W).1.length most) := rfl
  rw [hy]
  change Calls Try.prog _ _ w1 (ReadsR w1 r g (readS uF s bad W).2 (fun w => Held NuL w _ 43 3 1 w1.heap.size (readS uF s bad W).1) _) at hIN
  clear hy
  generalize readS uF s bad W = y at *
  obtain ⟨A, s2, b2⟩ := y
  have HN := Lib.hid (And.intro hIN ho1)
  clear hV1 hIN ho1 hr
  go_enter Try.func54, Try.ntmps54
  go_upto_region 2 with (fail)
  rw [← hw1]
  clear hw1
  go_wp2_with (first
    | (go_at_call 80; refine HN.out.1.mono ?_; rintro e w4 ⟨rfl, hc4, hj4, ho4⟩; obtain ⟨p, c, hV, hS⟩ := SlI.of hj4; have H4 := Lib.hid (And.intro hc4 (And.intro hS (And.intro ho4 hV))); have c4 := hV.c; clear hc4 hS ho4 hV hj4)
    | (go_at_call 100; refine (counted_c r g s2 b2 A.length most _ H4.out.1).mono ?_; rintro e w5 ⟨rfl, hc5, ho5⟩; have c5 := (H4.out.2.2.2.only ho5 (by omega)).c))
  go_ret
  exact ⟨p, A.length, c, rfl, (H4.out.2.1.only ho5 (by intro k hk e; omega)).mono (fun k _ hk => by omega), hc5, (HN.out.2.mono (fun _ _ h => h.elim)).trans (H4.out.2.2.1.then (ho5.mono (fun _ _ h => .inl h))) (fun _ h => h) (fun k hk h => by rcases h with h | h; exact h; omega)⟩
set_option maxHeartbeats 4000000 in
theorem keys_c (r g : Nat) (s : List UInt8) (bad : Int) (w : World) (hr : Cur w r g s bad) (hl : s.length ≤ 140737488355328) : Calls Try.prog 101 #[rp r] w (NumR SlSh w r g (keysS s bad)) := by
  obtain ⟨w1, hw1⟩ : ∃ w1, w1 = w.alloc (.cells #[.slice none 0 0] 53) := ⟨_, rfl⟩
  have hz1 : w1.heap.size = w.heap.size + 1 := by rw [hw1]; exact World.size_alloc _ _
  have hV1 : Var w1 w.heap.size 53 (.slice none 0 0) := by rw [hw1]; exact Var.new _ _ _
  have ho1 : Only (fun _ => False) w w1 := by rw [hw1]; exact (Only.refl _ _).alloc _
  have hrl := hr.lt
  have hgl := hr.glt
  have hsh : (vecS s bad 2 0 65535).1.length ≤ 65535 := vecS_short s bad 2 0 65535
  have hIN := within_c r g s bad 2 _ _ _ _ _ _ w1 (hr.only ho1 (fun h => h) (fun h => h)) hl
    (fun w' ho' => hV1.only ho' (by omega)) (fun wa wb hj ho' => hj.only shK ho' (by omega) (by intro k hk e; omega))
    (key1_c w1.heap.size w.heap.size (vecS s bad 2 0 65535).1 (by omega) (by omega)) (by omega) (by omega)
  have hy : keysS s bad = ((readS kF s bad 2).1, (readS kF s bad 2).2.1, cntB (readS kF s bad 2).2.2 (readS kF s bad 2).1.length 4) := rfl
  rw [hy]
  change Calls Try.prog _ _ w1 (ReadsR w1 r g (readS kF s bad 2).2 (fun w => Held ShL w _ 53 31 2 w1.heap.size (readS kF s bad 2).1) _) at hIN
  clear hy
  generalize readS kF s bad 2 = y at *
  obtain ⟨A, s2, b2⟩ := y
  have HN := Lib.hid (And.intro hIN ho1)
  clear hV1 hIN ho1 hr
  go_enter Try.func101, Try.ntmps101
  go_upto_region 2 with (fail)
  rw [← hw1]
  clear hw1
  go_wp2_with (first
    | (go_at_call 80; refine HN.out.1.mono ?_; rintro e w4 ⟨rfl, hc4, hj4, ho4⟩; obtain ⟨p, c, hV, hS⟩ := SlSh.of hj4; have H4 := Lib.hid (And.intro hc4 (And.intro hS (And.intro ho4 hV))); have c4 := hV.c; clear hc4 hS ho4 hV hj4)
    | (go_at_call 100; refine (counted_c r g s2 b2 A.length 4 _ H4.out.1).mono ?_; rintro e w5 ⟨rfl, hc5, ho5⟩; have c5 := (H4.out.2.2.2.only ho5 (by omega)).c))
  go_ret
  exact ⟨p, A.length, c, rfl, (H4.out.2.1.only ho5 (by intro k hk e; omega)).mono (fun k _ hk => by omega), hc5, (HN.out.2.mono (fun _ _ h => h.elim)).trans (H4.out.2.2.1.then (ho5.mono (fun _ _ h => .inl h))) (fun _ h => h) (fun k hk h => by rcases h with h | h; exact h; omega)⟩

def OffR (w : World) (r g : Nat) (y : (List (List UInt8 × Int) × List (List UInt8)) × List UInt8 × Int) (e : Ending) (w' : World) : Prop :=
  ∃ p n c p' n' c', e = .returned (.tuple #[.slice p n c, .slice p' n' c']) ∧ SlId w' (fun k => w.heap.size ≤ k) p n c y.1.1 ∧ SlBd w' (fun k => w.heap.size ≤ k) p' n' c' y.1.2 ∧ Cur w' r g y.2.1 y.2.2 ∧ Only (· = r) w w'
set_option maxHeartbeats 4000000 in
theorem offered_c (r g : Nat) (s : List UInt8) (bad : Int) (w : World) (hr : Cur w r g s bad) (hl : s.length ≤ 140737488355328) : Calls Try.prog 102 #[rp r] w (OffR w r g (offS s bad)) := by
  obtain ⟨w1, hw1⟩ : ∃ w1, w1 = w.alloc (.cells #[.slice none 0 0] 54) := ⟨_, rfl⟩
  obtain ⟨w2, hw2⟩ : ∃ w2, w2 = w1.alloc (.cells #[.slice none 0 0] 46) := ⟨_, rfl⟩
  have hz1 : w1.heap.size = w.heap.size + 1 := by rw [hw1]; exact World.size_alloc _ _
  have hz2 : w2.heap.size = w.heap.size + 2 := by rw [hw2, World.size_alloc, hz1]
  have hV1 : Var w1 w.heap.size 54 (.slice none 0 0) := by rw [hw1]; exact Var.new _ _ _
  have hV2 : Var w2 (w.heap.size + 1) 46 (.slice none 0 0) := by rw [hw2, ← hz1]; exact Var.new _ _ _
  have ho1 : Only (fun _ => False) w w1 := by rw [hw1]; exact (Only.refl _ _).alloc _
  have ho2 : Only (fun _ => False) w1 w2 := by rw [hw2]; exact (Only.refl _ _).alloc _
  have hV1 := hV1.only ho2 (fun h => h)
  have ho := ho1.then ho2
  have hrl := hr.lt
  have hgl := hr.glt
  have hsh : (vecS s bad 2 0 65535).1.length ≤ 65535 := vecS_short s bad 2 0 65535
  have hvl := vecS_left s bad 2 0 65535
  have hIN := within_c r g s bad 2 _ _ _ _ _ _ w2 (hr.only ho (fun h => h) (fun h => h)) hl
    (fun w' ho' => hV1.only ho' (by omega)) (fun wa wb hj ho' => hj.only idK ho' (by omega) (by intro k hk e; omega))
    (tic1_c w2.heap.size w.heap.size (vecS s bad 2 0 65535).1 (by omega) (by omega)) (by omega) (by omega)
  have hy : offS s bad = (((readS iF s bad 2).1, (readS bF (readS iF s bad 2).2.1 (readS iF s bad 2).2.2 2).1), (readS bF (readS iF s bad 2).2.1 (readS iF s bad 2).2.2 2).2.1, if (readS iF s bad 2).1.length = (readS bF (readS iF s bad 2).2.1 (readS iF s bad 2).2.2 2).1.length then cntB (readS bF (readS iF s bad 2).2.1 (readS iF s bad 2).2.2 2).2.2 (readS iF s bad 2).1.length 4 else rm (cntB (readS bF (readS iF s bad 2).2.1 (readS iF s bad 2).2.2 2).2.2 (readS iF s bad 2).1.length 4) 3) := rfl
  rw [hy]
  change Calls Try.prog _ _ w2 (ReadsR w2 r g (readS iF s bad 2).2 (fun w => Held IdL w _ 54 104 2 w2.heap.size (readS iF s bad 2).1) _) at hIN
  have hvl2 : (readS iF s bad 2).2.1.length ≤ s.length := hvl
  clear hy hvl
  generalize readS iF s bad 2 = y at *
  obtain ⟨A, s2, b2⟩ := y
  simp only at hvl2 hIN ⊢
  have hsh2 : (vecS s2 b2 2 0 65535).1.length ≤ 65535 := vecS_short s2 b2 2 0 65535
  have HIN2 : ∀ w4, Cur w4 r g s2 b2 → Var w4 (w.heap.size + 1) 46 (.slice none 0 0) → w2.heap.size ≤ w4.heap.size → Calls Try.prog 80 #[rp r, .int .i64 2, .func (.func 114) #[] #[.pointer (some ⟨w.heap.size + 1, 0, none⟩)]] w4 (ReadsR w4 r g (readS bF s2 b2 2).2 (fun w' => Held BdL w' (w.heap.size + 1) 46 23 1 w4.heap.size (readS bF s2 b2 2).1) (· = w.heap.size + 1)) := by
    intro w4 hc hv hz
    exact within_c r g s2 b2 2 _ _ _ _ _ _ w4 hc (by omega) (fun w' ho' => hv.only ho' (by omega)) (fun wa wb hj ho' => hj.only bdK ho' (by omega) (by intro k hk e; omega)) (bin1_c w4.heap.size (w.heap.size + 1) (vecS s2 b2 2 0 65535).1 (by omega) (by omega)) (by omega) (by omega)
  generalize readS bF s2 b2 2 = y2 at *
  obtain ⟨B, s3, b3⟩ := y2
  simp only at HIN2 ⊢
  have HN := Lib.hid (And.intro hIN (And.intro ho (And.intro HIN2 hV2)))
  have hbb : ((A.length : Int) != (B.length : Int)) = !decide (A.length = B.length) := by
    rw [Bool.eq_iff_iff]; simp; omega
  clear hV1 hV2 hIN HIN2 ho1 ho2 ho hr
  have H5' : ∀ (w4 w5 : World), Only (fun k => k = r ∨ k = w.heap.size) w2 w4 → Only (fun b => b = r ∨ b = w.heap.size + 1) w4 w5 → Only (· = r) w w5 := by
    intro w4 w5 h1 h2
    exact ((HN.out.2.1.mono (fun _ _ h => h.elim)).trans h1 (fun _ h => h) (fun k hk h => by omega)).trans h2 (fun _ h => h) (fun k hk h => by omega)
  have HO5 := Lib.hid H5'
  clear H5'
  by_cases hAB : A.length = B.length
  · rw [if_pos hAB]
    have hbb2 : ((A.length : Int) != (B.length : Int)) = false := by rw [hbb, hAB]; simp
    clear hbb hAB
    go_enter Try.func102, Try.ntmps102
    go_upto_region 3 with (fail)
    rw [← hw1, ← hw2]
    clear hw1 hw2
    go_upto_region 8 with (first
      | (go_at_call 80; have hq := H4; refine (HN.out.2.2.1 _ H4.out.1 (HN.out.2.2.2.only H4.out.2.2.1 (by omega)) H4.out.2.2.1.size).mono ?_; rintro e w5 ⟨rfl, hc5, hj5, ho5⟩; obtain ⟨p', c', hV', hS'⟩ := SlBd.of hj5; have hV5 := H4.out.2.2.2.only ho5 (by omega); have d0 := hV5.c; have d1 := hV'.c; have hz4 := H4.out.2.2.1.size; have hz5 := ho5.size; have H5 := Lib.hid (And.intro hc5 (And.intro (hS'.mono (T := fun k => w.heap.size ≤ k ∧ k ≠ r) (fun k _ hk => ⟨by omega, by omega⟩)) (And.intro (HO5.out _ _ H4.out.2.2.1 ho5) (And.intro ((H4.out.2.1.only ho5 (by intro k hk e; omega)).mono (T := fun k => w.heap.size ≤ k ∧ k ≠ r) (fun k _ hk => ⟨by omega, by omega⟩)) (And.intro hV5 hV'))))); clear hc5 hj5 ho5 hV' hS' hV5)
      | (go_at_call 80; refine HN.out.1.mono ?_; rintro e w4 ⟨rfl, hc4, hj4, ho4⟩; obtain ⟨p, c, hV, hS⟩ := SlId.of hj4; have H4 := Lib.hid (And.intro hc4 (And.intro hS (And.intro ho4 hV))); have c4 := hV.c; clear hc4 hS ho4 hV hj4)
      | (go_at_call 100; refine (counted_c r g s3 b3 A.length 4 _ H5.out.1).mono ?_; rintro e w6 ⟨rfl, hc6, ho6⟩; have e0 := (H5.out.2.2.2.2.1.only ho6 (by omega)).c; have e1 := (H5.out.2.2.2.2.2.only ho6 (by omega)).c; have H6 := Lib.hid (And.intro hc6 (And.intro (H5.out.2.2.2.1.only ho6 (fun k hk e => hk.2 e)) (And.intro (H5.out.2.1.only ho6 (fun k hk e => hk.2 e)) (H5.out.2.2.1.then ho6)))); clear hc6 ho6))
    go_quiet (fail)
    go_wp2
    go_ret2
    exact ⟨p, A.length, c, p', B.length, c', rfl, (H6.out.2.1.only (Only.drewN _ (Only.refl (fun _ => False) _)) (fun _ _ h => h)).mono (fun k _ hk => hk.1), (H6.out.2.2.1.only (Only.drewN _ (Only.refl (fun _ => False) _)) (fun _ _ h => h)).mono (fun k _ hk => hk.1), H6.out.1.only (Only.drewN _ (Only.refl (fun _ => False) _)) (fun h => h) (fun h => h), H6.out.2.2.2.drewN _⟩
  · rw [if_neg hAB]
    have hbb2 : ((A.length : Int) != (B.length : Int)) = true := by rw [hbb]; simp [hAB]
    clear hbb hAB
    go_enter Try.func102, Try.ntmps102
    go_upto_region 3 with (fail)
    rw [← hw1, ← hw2]
    clear hw1 hw2
    go_upto_region 8 with (first
      | (go_at_call 80; have hq := H4; refine (HN.out.2.2.1 _ H4.out.1 (HN.out.2.2.2.only H4.out.2.2.1 (by omega)) H4.out.2.2.1.size).mono ?_; rintro e w5 ⟨rfl, hc5, hj5, ho5⟩; obtain ⟨p', c', hV', hS'⟩ := SlBd.of hj5; have hV5 := H4.out.2.2.2.only ho5 (by omega); have d0 := hV5.c; have d1 := hV'.c; have hz4 := H4.out.2.2.1.size; have hz5 := ho5.size; have H5 := Lib.hid (And.intro hc5 (And.intro (hS'.mono (T := fun k => w.heap.size ≤ k ∧ k ≠ r) (fun k _ hk => ⟨by omega, by omega⟩)) (And.intro (HO5.out _ _ H4.out.2.2.1 ho5) (And.intro ((H4.out.2.1.only ho5 (by intro k hk e; omega)).mono (T := fun k => w.heap.size ≤ k ∧ k ≠ r) (fun k _ hk => ⟨by omega, by omega⟩)) (And.intro hV5 hV'))))); clear hc5 hj5 ho5 hV' hS' hV5)
      | (go_at_call 80; refine HN.out.1.mono ?_; rintro e w4 ⟨rfl, hc4, hj4, ho4⟩; obtain ⟨p, c, hV, hS⟩ := SlId.of hj4; have H4 := Lib.hid (And.intro hc4 (And.intro hS (And.intro ho4 hV))); have c4 := hV.c; clear hc4 hS ho4 hV hj4)
      | (go_at_call 100; refine (counted_c r g s3 b3 A.length 4 _ H5.out.1).mono ?_; rintro e w6 ⟨rfl, hc6, ho6⟩; have e0 := (H5.out.2.2.2.2.1.only ho6 (by omega)).c; have e1 := (H5.out.2.2.2.2.2.only ho6 (by omega)).c; have HV6 := Lib.hid (And.intro (H5.out.2.2.2.2.1.only ho6 (by omega)) (H5.out.2.2.2.2.2.only ho6 (by omega))); have H6 := Lib.hid (And.intro hc6 (And.intro (H5.out.2.2.2.1.only ho6 (fun k hk e => hk.2 e)) (And.intro (H5.out.2.1.only ho6 (fun k hk e => hk.2 e)) (H5.out.2.2.1.then ho6)))); clear hc6 ho6)
      | (go_at_call 49; refine (fail_c r g s3 _ _ H6.out.1).mono ?_; rintro e w7 ⟨rfl, hc7, ho7⟩; have i0 := (HV6.out.1.only ho7 (by omega)).c; have i1 := (HV6.out.2.only ho7 (by omega)).c; have H7 := Lib.hid (And.intro hc7 (And.intro (H6.out.2.1.only ho7 (fun k hk e => hk.2 e)) (And.intro (H6.out.2.2.1.only ho7 (fun k hk e => hk.2 e)) (H6.out.2.2.2.then ho7)))); clear hc7 ho7))
    go_quiet (fail)
    go_wp2
    go_ret2
    exact ⟨p, A.length, c, p', B.length, c', rfl, (H7.out.2.1.only (Only.drewN _ (Only.refl (fun _ => False) _)) (fun _ _ h => h)).mono (fun k _ hk => hk.1), (H7.out.2.2.1.only (Only.drewN _ (Only.refl (fun _ => False) _)) (fun _ _ h => h)).mono (fun k _ hk => hk.1), H7.out.1.only (Only.drewN _ (Only.refl (fun _ => False) _)) (fun h => h) (fun h => h), H7.out.2.2.2.drewN _⟩
end Go.Proofs.Ytegmimnhkohaoaa
/-
  The contract of hello.Server's extension. Condition: at most 2 to the 47th bytes.
-/
namespace Go.Proofs.Ytegmimnhkohaoaa
open Go.RowKit Go.Kx
set_option linter.unusedVariables false
set_option linter.unusedSimpArgs false
set_option linter.unusedSectionVars false

/-- A slice of bytes that lies in blocks of S. -/
def SlS (w : World) (S : Nat → Prop) (p : Option Addr) (n c : Nat) (l : List UInt8) : Prop := l.length = n ∧ Rd w S p l ∧ (p = none → c = 0) ∧ n ≤ c ∧ c ≤ maxLen
theorem SlS.only {w w' : World} {S q : Nat → Prop} {p : Option Addr} {n c : Nat} {l : List UInt8} (h : SlS w S p n c l) (ho : Only q w w') (hq : ∀ k, S k → ¬ q k) : SlS w' S p n c l := ⟨h.1, h.2.1.only ho hq, h.2.2⟩
theorem SlS.mono {w : World} {S T : Nat → Prop} {p : Option Addr} {n c : Nat} {l : List UInt8} (h : SlS w S p n c l) (hb : ∀ k, k < w.heap.size → S k → T k) : SlS w T p n c l := ⟨h.1, h.2.1.mono hb, h.2.2⟩
theorem SlS.of_own {w : World} {S : Nat → Prop} {g : Nat} {p : Option Addr} {n c : Nat} {l : List UInt8} (h : Own w g (.slice p n c) l) (hn : l.length = n) (hg : S g) : SlS w S p n c l := by
  obtain ⟨p', c', he, h1, h2, h3, h4, h5⟩ := h.form
  cases he
  exact ⟨hn, h3.mono (fun k _ e => by rw [e]; exact hg), h4, by rw [← hn] at *; exact h1, h2⟩
theorem SlS.nil (w : World) (S : Nat → Prop) : SlS w S none 0 0 [] := ⟨rfl, Rd.nil _ _ _, fun _ => rfl, Nat.le_refl _, by unfold maxLen; omega⟩

/-- The cells behind the random number. -/
def cellsL (s : Sv) (z : S3) : List Value := [.slice z.p1 z.n1 z.c1, .int .i64 s.suite, .int .i64 s.ver, .int .i64 s.grp, .slice z.p2 z.n2 z.c2, .bool s.retry, .slice z.p3 z.n3 z.c3, .int .i64 s.psk]
theorem svV_cells (s : Sv) (z : S3) : svV s z = (s.R.map B8 ++ cellsL s z).toArray := rfl
structure SvB (w : World) (q0 : Nat) (S : Nat → Prop) (s : Sv) (z : S3) : Prop where
  b : Blk w q0 33 (svV s z)
  len : s.R.length = 32
  s1 : SlS w S z.p1 z.n1 z.c1 s.ses
  s2 : SlS w S z.p2 z.n2 z.c2 s.key
  s3 : SlS w S z.p3 z.n3 z.c3 s.cook
def SvAt (q0 : Nat) (w : World) (S : Nat → Prop) (s : Sv) : Prop := ∃ z, SvB w q0 S s z
section
variable {w w' : World} {q0 : Nat} {S T X : Nat → Prop} {s : Sv} {z : S3}
theorem SvB.only (h : SvB w q0 S s z) (ho : Only X w w') (hX : ∀ k, X k → ¬ S k ∧ k ≠ q0) : SvB w' q0 S s z :=
  ⟨h.b.only ho (fun hx => (hX _ hx).2 rfl), h.len, h.s1.only ho (fun k hk hx => (hX k hx).1 hk), h.s2.only ho (fun k hk hx => (hX k hx).1 hk), h.s3.only ho (fun k hk hx => (hX k hx).1 hk)⟩
theorem SvB.mono (h : SvB w q0 S s z) (hT : ∀ k, k < w.heap.size → S k → T k) : SvB w q0 T s z := ⟨h.b, h.len, h.s1.mono hT, h.s2.mono hT, h.s3.mono hT⟩
theorem SvB.cell (h : SvB w q0 S s z) (k : Nat) : w.cell? ⟨q0, 32 + k, none⟩ = (cellsL s z)[k]? := by
  rw [h.b.c, svV_cells, List.getElem?_toArray, List.getElem?_append_right (by simp [h.len])]
  simp [h.len]
theorem SvB.put (h : SvB w q0 S s z) (hq : ¬ S q0) (k : Nat) (v : Value) (s' : Sv) (z' : S3) (hL : (cellsL s z).set k v = cellsL s' z') (hR : s'.R = s.R)
    (h1 : SlS w S z'.p1 z'.n1 z'.c1 s'.ses) (h2 : SlS w S z'.p2 z'.n2 z'.c2 s'.key) (h3 : SlS w S z'.p3 z'.n3 z'.c3 s'.cook) : SvB (w.setCell ⟨q0, 32 + k, none⟩ v) q0 S s' z' := by
  have ho : Only (· = q0) w (w.setCell ⟨q0, 32 + k, none⟩ v) := (Only.refl (fun k => k = q0) w).setCell _ _ (.inl rfl)
  refine ⟨?_, by rw [hR]; exact h.len, h1.only ho (fun x hx e => hq (e ▸ hx)), h2.only ho (fun x hx e => hq (e ▸ hx)), h3.only ho (fun x hx e => hq (e ▸ hx))⟩
  have hb := h.b
  unfold Blk at *
  rw [svV_cells, hR, ← hL]
  rw [svV_cells] at hb
  have e : ((s.R.map B8 ++ cellsL s z).toArray.setIfInBounds (32 + k) v) = (s.R.map B8 ++ (cellsL s z).set k v).toArray := by
    rw [List.setIfInBounds_toArray]
    congr 1
    rw [List.set_append, if_neg (by simp [h.len])]
    simp [h.len]
  rw [← e]
  simp [World.setCell, Array.getElem?_modify, hb]
end

/-- What one extension makes of a Server. -/
def srvF (st : Sv) (kind : Int) (s : List UInt8) (last : Bool) : Sv × List UInt8 × Int :=
  if kind = 43 then ({ st with ver := (rU s 0 2).1 }, (rU s 0 2).2)
  else if kind = 51 then
    (if st.retry then ({ st with grp := (rU s 0 2).1 }, (rU s 0 2).2.1, if (rU s 0 2).1 = 0 then rm (rU s 0 2).2.2 3 else (rU s 0 2).2.2)
    else ({ st with grp := (rU s 0 2).1, key := (vecS (rU s 0 2).2.1 (rU s 0 2).2.2 2 1 64).1 }, (vecS (rU s 0 2).2.1 (rU s 0 2).2.2 2 1 64).2.1, if (rU s 0 2).1 = 0 then rm (vecS (rU s 0 2).2.1 (rU s 0 2).2.2 2 1 64).2.2 3 else (vecS (rU s 0 2).2.1 (rU s 0 2).2.2 2 1 64).2.2))
  else if kind = 44 then (if st.retry then ({ st with cook := (vecS s 0 2 1 64).1 }, (vecS s 0 2 1 64).2) else (st, s, rm 0 3))
  else if kind = 41 then (if st.retry then (st, s, rm 0 3) else ({ st with psk := (rU s 0 2).1 }, (rU s 0 2).2))
  else (st, skipS s 0)

theorem knownSE : Known 48 := fun _ _ => by kernel_rfl

/-- What the call leaves. -/
def SeR (q0 : Nat) (S : Nat → Prop) (w : World) (q g : Nat) (y : Sv × List UInt8 × Int) : Ending → World → Prop := ReadsR w q g y.2 (fun w' => SvAt q0 w' (fun k => S k ∨ w.heap.size ≤ k) y.1) (· = q0)

theorem SeR.of {q0 : Nat} {S : Nat → Prop} {w w2 : World} {q g : Nat} (y : Sv × List UInt8 × Int) (z : S3) (h : SvB w2 q0 (fun k => S k ∨ w.heap.size ≤ k) y.1 z) (hc : Cur w2 q g y.2.1 y.2.2) (ho : Only (fun k => k = q ∨ k = q0) w w2) : SeR q0 S w q g y (.returned ret0) w2 := ⟨rfl, hc, ⟨z, h⟩, ho⟩
theorem cur_set {w : World} {q g q0 : Nat} {s : List UInt8} {b : Int} (h : Cur w q g s b) (h1 : q ≠ q0) (h2 : g ≠ q0) {o : Nat} (v : Value) : Cur (w.setCell ⟨q0, o, none⟩ v) q g s b := h.only ((Only.refl (fun k => k = q0) w).setCell _ _ (.inl rfl)) h1 h2
theorem only_set {w w1 : World} {q q0 : Nat} (h : Only (· = q) w w1) (o : Nat) (v : Value) : Only (fun k => k = q ∨ k = q0) w (w1.setCell ⟨q0, o, none⟩ v) := (h.mono (fun _ _ h => .inl h)).setCell _ _ (.inl (.inr rfl))
set_option maxHeartbeats 4000000 in
set_option maxRecDepth 100000 in
theorem se43 (q0 : Nat) (w : World) (S : Nat → Prop) (st : Sv) (z : S3) (q g : Nat) (s : List UInt8) (last : Bool) (hA : SvB w q0 S st z) (hSq : ¬ S q) (hS0 : ¬ S q0) (hqq : q ≠ q0) (hgq : g ≠ q0) (hC : Cur w q g s 0) (hl : s.length ≤ 140737488355328) : Calls Try.prog 48 #[rp q0, .int .i64 43, rp q, .bool last] w (SeR q0 S w q g (srvF st 43 s last)) := by
  have hF : srvF st 43 s last = ({ st with ver := (rU s 0 2).1 }, (rU s 0 2).2) := if_pos rfl
  rw [hF]
  have HU := Lib.hid (ruint_c q g s 0 2 w hC)
  clear hF
  generalize rU s 0 2 = u at *
  have HA := Lib.hid hA
  have hlt := hA.b.lt
  clear hA hC
  go_enter Try.func48, Try.ntmps48
  go_wp2_with (first
    | (go_at_call 46; refine HU.out.mono ?_; rintro e w1 ⟨rfl, hc, ho⟩; have H1 := Lib.hid (And.intro (HA.out.only ho (fun k hk => by subst hk; exact ⟨hSq, hqq⟩)) (And.intro hc ho)); have c34 := H1.out.1.cell 2; have f34 := H1.out.1.b.fr 34; clear hc ho))
  go_end0
  have hp := H1.out.1.put hS0 2 (.int .i64 u.1) { st with ver := u.1 } z rfl rfl H1.out.1.s1 H1.out.1.s2 H1.out.1.s3
  exact SeR.of _ _ (hp.mono (fun _ _ h => .inl h)) (cur_set H1.out.2.1 hqq hgq _) (only_set H1.out.2.2 _ _)

set_option maxHeartbeats 4000000 in
set_option maxRecDepth 100000 in
theorem se41 (q0 : Nat) (w : World) (S : Nat → Prop) (st : Sv) (z : S3) (q g : Nat) (s : List UInt8) (last : Bool) (hA : SvB w q0 S st z) (hSq : ¬ S q) (hS0 : ¬ S q0) (hqq : q ≠ q0) (hgq : g ≠ q0) (hC : Cur w q g s 0) (hl : s.length ≤ 140737488355328) : Calls Try.prog 48 #[rp q0, .int .i64 41, rp q, .bool last] w (SeR q0 S w q g (srvF st 41 s last)) := by
  obtain ⟨re, hre⟩ : ∃ re, re = st.retry := ⟨_, rfl⟩
  have hF : srvF st 41 s last = if re then (st, s, rm 0 3) else ({ st with psk := (rU s 0 2).1 }, (rU s 0 2).2) := by rw [hre]; rfl
  rw [hF]
  have HU := Lib.hid (ruint_c q g s 0 2 w hC)
  clear hF
  generalize rU s 0 2 = u at *
  have c37 := hA.cell 5
  simp only [cellsL, List.getElem?_cons_succ, List.getElem?_cons_zero] at c37
  rw [← hre] at c37
  clear hre
  have HA := Lib.hid (And.intro hA hC)
  have hlt := hA.b.lt
  clear hA hC
  cases re
  · go_enter Try.func48, Try.ntmps48
    go_wp2_with (first
      | (go_at_call 46; refine HU.out.mono ?_; rintro e w1 ⟨rfl, hc, ho⟩; have H1 := Lib.hid (And.intro (HA.out.1.only ho (fun k hk => by subst hk; exact ⟨hSq, hqq⟩)) (And.intro hc ho)); have c39 := H1.out.1.cell 7; have f39 := H1.out.1.b.fr 39; clear hc ho))
    go_end0
    have hp := H1.out.1.put hS0 7 (.int .i64 u.1) { st with psk := u.1 } z rfl rfl H1.out.1.s1 H1.out.1.s2 H1.out.1.s3
    exact SeR.of _ _ (hp.mono (fun _ _ h => .inl h)) (cur_set H1.out.2.1 hqq hgq _) (only_set H1.out.2.2 _ _)
  · go_enter Try.func48, Try.ntmps48
    go_wp2_with (first
      | (go_at_call 49; refine (fail_c q g s 0 _ HA.out.2).mono ?_; rintro e w1 ⟨rfl, hc, ho⟩; have H1 := Lib.hid (And.intro (HA.out.1.only ho (fun k hk => by subst hk; exact ⟨hSq, hqq⟩)) (And.intro hc ho)); clear hc ho))
    go_end0
    exact SeR.of _ _ (H1.out.1.mono (fun _ _ h => .inl h)) H1.out.2.1 (H1.out.2.2.mono (fun _ _ h => .inl h))

set_option maxHeartbeats 4000000 in
set_option maxRecDepth 100000 in
theorem se44 (q0 : Nat) (w : World) (S : Nat → Prop) (st : Sv) (z : S3) (q g : Nat) (s : List UInt8) (last : Bool) (hA : SvB w q0 S st z) (hSq : ¬ S q) (hS0 : ¬ S q0) (hqq : q ≠ q0) (hgq : g ≠ q0) (hC : Cur w q g s 0) (hl : s.length ≤ 140737488355328) : Calls Try.prog 48 #[rp q0, .int .i64 44, rp q, .bool last] w (SeR q0 S w q g (srvF st 44 s last)) := by
  obtain ⟨re, hre⟩ : ∃ re, re = st.retry := ⟨_, rfl⟩
  have hF : srvF st 44 s last = if re then ({ st with cook := (vecS s 0 2 1 64).1 }, (vecS s 0 2 1 64).2) else (st, s, rm 0 3) := by rw [hre]; rfl
  rw [hF]
  have HV := Lib.hid (vector_c q g s 0 2 1 64 w hC hl)
  clear hF
  generalize vecS s 0 2 1 64 = u at *
  have c37 := hA.cell 5
  simp only [cellsL, List.getElem?_cons_succ, List.getElem?_cons_zero] at c37
  rw [← hre] at c37
  clear hre
  have HA := Lib.hid (And.intro hA hC)
  have hlt := hA.b.lt
  clear hA hC
  cases re
  · go_enter Try.func48, Try.ntmps48
    go_wp2_with (first
      | (go_at_call 49; refine (fail_c q g s 0 _ HA.out.2).mono ?_; rintro e w1 ⟨rfl, hc, ho⟩; have H1 := Lib.hid (And.intro (HA.out.1.only ho (fun k hk => by subst hk; exact ⟨hSq, hqq⟩)) (And.intro hc ho)); clear hc ho))
    go_end0
    exact SeR.of _ _ (H1.out.1.mono (fun _ _ h => .inl h)) H1.out.2.1 (H1.out.2.2.mono (fun _ _ h => .inl h))
  · go_enter Try.func48, Try.ntmps48
    go_wp2_with (first
      | (go_at_call 45; refine HV.out.mono ?_; rintro e w1 ⟨g', p, c, rfl, hg', hO, hc, ho⟩; have H1 := Lib.hid (And.intro (HA.out.1.only ho (fun k hk => by subst hk; exact ⟨hSq, hqq⟩)) (And.intro hc (And.intro ho hO))); have c38 := H1.out.1.cell 6; have f38 := H1.out.1.b.fr 38; clear hc ho hO))
    go_end0
    have hw := H1.out.1.mono (T := fun k => S k ∨ w.heap.size ≤ k) (fun _ _ h => .inl h)
    have hp := hw.put (by rintro (h | h); exact hS0 h; omega) 6 (.slice p u.1.length c) { st with cook := u.1 } { z with p3 := p, n3 := u.1.length, c3 := c } rfl rfl hw.s1 hw.s2 (SlS.of_own H1.out.2.2.2 rfl (.inr hg'))
    exact SeR.of _ _ hp (cur_set H1.out.2.1 hqq hgq _) (only_set H1.out.2.2.1 _ _)

set_option maxHeartbeats 4000000 in
set_option maxRecDepth 100000 in
theorem seOther (q0 : Nat) (w : World) (S : Nat → Prop) (st : Sv) (z : S3) (q g : Nat) (s : List UInt8) (last : Bool) (hA : SvB w q0 S st z) (hSq : ¬ S q) (hS0 : ¬ S q0) (hqq : q ≠ q0) (hgq : g ≠ q0) (hC : Cur w q g s 0) (hl : s.length ≤ 140737488355328) (kind : Int) (h1 : kind ≠ 43) (h2 : kind ≠ 51) (h3 : kind ≠ 44) (h4 : kind ≠ 41) : Calls Try.prog 48 #[rp q0, .int .i64 kind, rp q, .bool last] w (SeR q0 S w q g (srvF st kind s last)) := by
  have hF : srvF st kind s last = (st, skipS s 0) := by unfold srvF; rw [if_neg h1, if_neg h2, if_neg h3, if_neg h4]
  rw [hF]
  have b1 : (kind == 43) = false := by simpa using h1
  have b2 : (kind == 51) = false := by simpa using h2
  have b3 : (kind == 44) = false := by simpa using h3
  have b4 : (kind == 41) = false := by simpa using h4
  have HA := Lib.hid (And.intro hA hC)
  clear hA hC hF h1 h2 h3 h4
  go_enter Try.func48, Try.ntmps48
  go_wp2_with (first
    | (go_at_call 86; refine (skip_c q g s 0 _ HA.out.2 hl).mono ?_; rintro e w1 ⟨rfl, hc, ho⟩; have H1 := Lib.hid (And.intro (HA.out.1.only ho (fun k hk => by subst hk; exact ⟨hSq, hqq⟩)) (And.intro hc ho)); clear hc ho))
  go_end0
  exact SeR.of _ _ (H1.out.1.mono (fun _ _ h => .inl h)) H1.out.2.1 (H1.out.2.2.mono (fun _ _ h => .inl h))

set_option maxHeartbeats 4000000 in
set_option maxRecDepth 100000 in
theorem se51 (q0 : Nat) (w : World) (S : Nat → Prop) (st : Sv) (z : S3) (q g : Nat) (s : List UInt8) (last : Bool) (hA : SvB w q0 S st z) (hSq : ¬ S q) (hS0 : ¬ S q0) (hqq : q ≠ q0) (hgq : g ≠ q0) (hC : Cur w q g s 0) (hl : s.length ≤ 140737488355328) : Calls Try.prog 48 #[rp q0, .int .i64 51, rp q, .bool last] w (SeR q0 S w q g (srvF st 51 s last)) := by
  obtain ⟨re, hre⟩ : ∃ re, re = st.retry := ⟨_, rfl⟩
  have hF : srvF st 51 s last = if re then ({ st with grp := (rU s 0 2).1 }, (rU s 0 2).2.1, if (rU s 0 2).1 = 0 then rm (rU s 0 2).2.2 3 else (rU s 0 2).2.2)
    else ({ st with grp := (rU s 0 2).1, key := (vecS (rU s 0 2).2.1 (rU s 0 2).2.2 2 1 64).1 }, (vecS (rU s 0 2).2.1 (rU s 0 2).2.2 2 1 64).2.1, if (rU s 0 2).1 = 0 then rm (vecS (rU s 0 2).2.1 (rU s 0 2).2.2 2 1 64).2.2 3 else (vecS (rU s 0 2).2.1 (rU s 0 2).2.2 2 1 64).2.2) := by rw [hre]; rfl
  rw [hF]
  have HU := Lib.hid (ruint_c q g s 0 2 w hC)
  have hul := rU_left s 0 2
  clear hF
  obtain ⟨u, hu⟩ : ∃ u, u = rU s 0 2 := ⟨_, rfl⟩
  rw [← hu] at HU hul ⊢
  obtain ⟨a, s1, b1⟩ := u
  simp only at HU hul ⊢
  have HV := Lib.hid (fun w1 h => vector_c q g s1 b1 2 1 64 w1 h (by omega))
  obtain ⟨v, hv⟩ : ∃ v, v = vecS s1 b1 2 1 64 := ⟨_, rfl⟩
  rw [← hv] at HV ⊢
  have HRE := Lib.hid (And.intro hre hA.cell)
  have HA := Lib.hid (And.intro hA hC)
  have hlt := hA.b.lt
  have hql := hC.lt
  clear hA hC hu hv hre
  by_cases ha : a = 0
  · subst ha
    simp only [if_true]
    cases re
    · go_enter Try.func48, Try.ntmps48
      go_wp2_with (first
        | (go_at_call 46; refine HU.out.mono ?_; rintro e w1 ⟨rfl, hc, ho⟩; have H1 := Lib.hid (And.intro (HA.out.1.only ho (fun k hk => by subst hk; exact ⟨hSq, hqq⟩)) (And.intro hc ho)); have c35 := H1.out.1.cell 3; have f35 := H1.out.1.b.fr 35; have P1 := Lib.hid (And.intro (H1.out.1.put hS0 3 (.int .i64 0) { st with grp := 0 } z rfl rfl H1.out.1.s1 H1.out.1.s2 H1.out.1.s3) (And.intro (cur_set (o := 35) H1.out.2.1 hqq hgq (.int .i64 0)) (only_set (q0 := q0) H1.out.2.2 35 (.int .i64 0)))); have e35 : (w1.setCell ⟨q0, 35, none⟩ (.int .i64 0)).cell? ⟨q0, 35, none⟩ = some (.int .i64 0) := P1.out.1.cell 3; have e37 : (w1.setCell ⟨q0, 35, none⟩ (.int .i64 0)).cell? ⟨q0, 37, none⟩ = some (.bool false) := (P1.out.1.cell 5).trans (by show some (Value.bool st.retry) = _; rw [← HRE.out.1]); clear hc ho)
        | (go_at_call 45; refine (HV.out _ P1.out.2.1).mono ?_; rintro e w3 ⟨g', p, c, rfl, hg', hO, hc, ho⟩; have hz : w.heap.size ≤ g' := (Nat.le_trans P1.out.2.2.size hg'); have P3 := Lib.hid (And.intro ((P1.out.1.only ho (fun k hk => by subst hk; exact ⟨hSq, hqq⟩)).mono (T := fun k => S k ∨ w.heap.size ≤ k) (fun _ _ h => .inl h)) (And.intro hc (And.intro (P1.out.2.2.then (ho.mono (fun _ _ h => .inl h))) hO))); have c36 := P3.out.1.cell 4; have f36 := P3.out.1.b.fr 36; have P4 := Lib.hid (And.intro (P3.out.1.put (s' := { st with grp := 0, key := v.1 }) (z' := { z with p2 := p, n2 := v.1.length, c2 := c }) (by rintro (h | h); exact hS0 h; omega) 4 (.slice p v.1.length c) rfl rfl P3.out.1.s1 (SlS.of_own P3.out.2.2.2 rfl (.inr hz)) P3.out.1.s3) (And.intro (cur_set (o := 36) P3.out.2.1 hqq hgq (.slice p v.1.length c)) (P3.out.2.2.1.setCell ⟨q0, 36, none⟩ (.slice p v.1.length c) (.inl (.inr rfl))))); have g35 : (w3.setCell ⟨q0, 36, none⟩ (.slice p v.1.length c)).cell? ⟨q0, 35, none⟩ = some (.int .i64 0) := P4.out.1.cell 3; clear hc ho hO hg')
        | (go_at_call 49; refine (fail_c q g _ _ _ P4.out.2.1).mono ?_; rintro e w5 ⟨rfl, hc5, ho5⟩))
      go_end0
      have hq : q < w.heap.size := hql
      exact SeR.of (w := w) ({ st with grp := 0, key := v.1 }, v.2.1, _) _ (P4.out.1.only ho5 (fun k hk => by subst hk; exact ⟨by rintro (h | h); exact hSq h; omega, hqq⟩)) hc5 (P4.out.2.2.then (ho5.mono (fun _ _ h => .inl h)))
    · go_enter Try.func48, Try.ntmps48
      go_wp2_with (first
        | (go_at_call 46; refine HU.out.mono ?_; rintro e w1 ⟨rfl, hc, ho⟩; have H1 := Lib.hid (And.intro (HA.out.1.only ho (fun k hk => by subst hk; exact ⟨hSq, hqq⟩)) (And.intro hc ho)); have c35 := H1.out.1.cell 3; have f35 := H1.out.1.b.fr 35; have P1 := Lib.hid (And.intro (H1.out.1.put hS0 3 (.int .i64 0) { st with grp := 0 } z rfl rfl H1.out.1.s1 H1.out.1.s2 H1.out.1.s3) (And.intro (cur_set (o := 35) H1.out.2.1 hqq hgq (.int .i64 0)) (only_set (q0 := q0) H1.out.2.2 35 (.int .i64 0)))); have e35 : (w1.setCell ⟨q0, 35, none⟩ (.int .i64 0)).cell? ⟨q0, 35, none⟩ = some (.int .i64 0) := P1.out.1.cell 3; have e37 : (w1.setCell ⟨q0, 35, none⟩ (.int .i64 0)).cell? ⟨q0, 37, none⟩ = some (.bool true) := (P1.out.1.cell 5).trans (by show some (Value.bool st.retry) = _; rw [← HRE.out.1]); clear hc ho)
        | (go_at_call 49; refine (fail_c q g _ _ _ P1.out.2.1).mono ?_; rintro e w5 ⟨rfl, hc5, ho5⟩))
      go_end0
      exact SeR.of (w := w) ({ st with grp := 0 }, s1, _) _ ((P1.out.1.only ho5 (fun k hk => by subst hk; exact ⟨hSq, hqq⟩)).mono (fun _ _ h => .inl h)) hc5 (P1.out.2.2.then (ho5.mono (fun _ _ h => .inl h)))
  · have hab : (a == 0) = false := by simpa using ha
    simp only [if_neg ha]
    clear ha
    cases re
    · go_enter Try.func48, Try.ntmps48
      go_wp2_with (first
        | (go_at_call 46; refine HU.out.mono ?_; rintro e w1 ⟨rfl, hc, ho⟩; have H1 := Lib.hid (And.intro (HA.out.1.only ho (fun k hk => by subst hk; exact ⟨hSq, hqq⟩)) (And.intro hc ho)); have c35 := H1.out.1.cell 3; have f35 := H1.out.1.b.fr 35; have P1 := Lib.hid (And.intro (H1.out.1.put hS0 3 (.int .i64 a) { st with grp := a } z rfl rfl H1.out.1.s1 H1.out.1.s2 H1.out.1.s3) (And.intro (cur_set (o := 35) H1.out.2.1 hqq hgq (.int .i64 a)) (only_set (q0 := q0) H1.out.2.2 35 (.int .i64 a)))); have e35 : (w1.setCell ⟨q0, 35, none⟩ (.int .i64 a)).cell? ⟨q0, 35, none⟩ = some (.int .i64 a) := P1.out.1.cell 3; have e37 : (w1.setCell ⟨q0, 35, none⟩ (.int .i64 a)).cell? ⟨q0, 37, none⟩ = some (.bool false) := (P1.out.1.cell 5).trans (by show some (Value.bool st.retry) = _; rw [← HRE.out.1]); clear hc ho)
        | (go_at_call 45; refine (HV.out _ P1.out.2.1).mono ?_; rintro e w3 ⟨g', p, c, rfl, hg', hO, hc, ho⟩; have hz : w.heap.size ≤ g' := (Nat.le_trans P1.out.2.2.size hg'); have P3 := Lib.hid (And.intro ((P1.out.1.only ho (fun k hk => by subst hk; exact ⟨hSq, hqq⟩)).mono (T := fun k => S k ∨ w.heap.size ≤ k) (fun _ _ h => .inl h)) (And.intro hc (And.intro (P1.out.2.2.then (ho.mono (fun _ _ h => .inl h))) hO))); have c36 := P3.out.1.cell 4; have f36 := P3.out.1.b.fr 36; have P4 := Lib.hid (And.intro (P3.out.1.put (s' := { st with grp := a, key := v.1 }) (z' := { z with p2 := p, n2 := v.1.length, c2 := c }) (by rintro (h | h); exact hS0 h; omega) 4 (.slice p v.1.length c) rfl rfl P3.out.1.s1 (SlS.of_own P3.out.2.2.2 rfl (.inr hz)) P3.out.1.s3) (And.intro (cur_set (o := 36) P3.out.2.1 hqq hgq (.slice p v.1.length c)) (P3.out.2.2.1.setCell ⟨q0, 36, none⟩ (.slice p v.1.length c) (.inl (.inr rfl))))); have g35 : (w3.setCell ⟨q0, 36, none⟩ (.slice p v.1.length c)).cell? ⟨q0, 35, none⟩ = some (.int .i64 a) := P4.out.1.cell 3; clear hc ho hO hg'))
      go_end0
      exact SeR.of (w := w) ({ st with grp := a, key := v.1 }, v.2.1, _) _ P4.out.1 P4.out.2.1 P4.out.2.2
    · go_enter Try.func48, Try.ntmps48
      go_wp2_with (first
        | (go_at_call 46; refine HU.out.mono ?_; rintro e w1 ⟨rfl, hc, ho⟩; have H1 := Lib.hid (And.intro (HA.out.1.only ho (fun k hk => by subst hk; exact ⟨hSq, hqq⟩)) (And.intro hc ho)); have c35 := H1.out.1.cell 3; have f35 := H1.out.1.b.fr 35; have P1 := Lib.hid (And.intro (H1.out.1.put hS0 3 (.int .i64 a) { st with grp := a } z rfl rfl H1.out.1.s1 H1.out.1.s2 H1.out.1.s3) (And.intro (cur_set (o := 35) H1.out.2.1 hqq hgq (.int .i64 a)) (only_set (q0 := q0) H1.out.2.2 35 (.int .i64 a)))); have e35 : (w1.setCell ⟨q0, 35, none⟩ (.int .i64 a)).cell? ⟨q0, 35, none⟩ = some (.int .i64 a) := P1.out.1.cell 3; have e37 : (w1.setCell ⟨q0, 35, none⟩ (.int .i64 a)).cell? ⟨q0, 37, none⟩ = some (.bool true) := (P1.out.1.cell 5).trans (by show some (Value.bool st.retry) = _; rw [← HRE.out.1]); clear hc ho))
      go_end0
      exact SeR.of (w := w) ({ st with grp := a }, s1, _) _ (P1.out.1.mono (fun _ _ h => .inl h)) P1.out.2.1 P1.out.2.2

theorem server_ext (q0 : Nat) : Ext 48 q0 (SvAt q0) srvF where
  known := knownSE
  only := fun w w' S X st h ho hX => by obtain ⟨z, h⟩ := h; exact ⟨z, h.only ho hX⟩
  mono := fun w S T st h hT => by obtain ⟨z, h⟩ := h; exact ⟨z, h.mono hT⟩
  lt := fun w S st h => by obtain ⟨z, h⟩ := h; exact h.b.lt
  run := fun w S st q g kind s last h hSq hS0 hqq hgq hC hl _ _ => by
    obtain ⟨z, h⟩ := h
    by_cases h1 : kind = 43
    · subst h1; exact se43 q0 w S st z q g s last h hSq hS0 hqq hgq hC hl
    by_cases h2 : kind = 51
    · subst h2; exact se51 q0 w S st z q g s last h hSq hS0 hqq hgq hC hl
    by_cases h3 : kind = 44
    · subst h3; exact se44 q0 w S st z q g s last h hSq hS0 hqq hgq hC hl
    by_cases h4 : kind = 41
    · subst h4; exact se41 q0 w S st z q g s last h hSq hS0 hqq hgq hC hl
    exact seOther q0 w S st z q g s last h hSq hS0 hqq hgq hC hl kind h1 h2 h3 h4
end Go.Proofs.Ytegmimnhkohaoaa
/-
  The contract of hello.Client's extension. Condition: at most 2 to the 47th bytes.
-/
namespace Go.Proofs.Ytegmimnhkohaoaa
open Go.RowKit Go.Kx
set_option linter.unusedVariables false
set_option linter.unusedSimpArgs false
set_option maxRecDepth 100000

/-- A Client in a block; its slices lie in blocks of S. -/
structure ClB (w : World) (q0 : Nat) (S : Nat → Prop) (s : Cl) (z : Z10) : Prop where
  b : Blk w q0 56 (clV s z)
  i : IsCl w S s z
def ClAt (q0 : Nat) (w : World) (S : Nat → Prop) (s : Cl) : Prop := ∃ z, ClB w q0 S s z
section
variable {w w' : World} {q0 : Nat} {S T X : Nat → Prop} {s : Cl} {z : Z10}
theorem ClB.only (h : ClB w q0 S s z) (ho : Only X w w') (hX : ∀ k, X k → ¬ S k ∧ k ≠ q0) : ClB w' q0 S s z :=
  ⟨h.b.only ho (fun hx => (hX _ hx).2 rfl), h.i.only ho (fun k hk hx => (hX k hx).1 hk)⟩
theorem ClB.mono (h : ClB w q0 S s z) (hT : ∀ k, k < w.heap.size → S k → T k) : ClB w q0 T s z := ⟨h.b, h.i.mono hT⟩
theorem ClB.cell (h : ClB w q0 S s z) (k : Nat) : w.cell? ⟨q0, 32 + k, none⟩ = (clL z)[k]? := (h.b.c (32 + k)).trans (clV_get s z h.i.len k)
theorem ClB.put (h : ClB w q0 S s z) (hq : ¬ S q0) (k : Nat) (v : Value) (s' : Cl) (z' : Z10) (hL : (clL z).set k v = clL z') (hR : s'.R = s.R) (hI : IsCl w S s' z') : ClB (w.setCell ⟨q0, 32 + k, none⟩ v) q0 S s' z' := by
  have ho : Only (· = q0) w (w.setCell ⟨q0, 32 + k, none⟩ v) := (Only.refl (fun k => k = q0) w).setCell _ _ (.inl rfl)
  refine ⟨?_, hI.only ho (fun x hx e => hq (e ▸ hx))⟩
  have hb := h.b
  unfold Blk clV at *
  rw [hR, ← hL]
  have e : ((s.R.map B8 ++ clL z).toArray.setIfInBounds (32 + k) v) = (s.R.map B8 ++ (clL z).set k v).toArray := by
    rw [List.setIfInBounds_toArray]
    congr 1
    rw [List.set_append, if_neg (by simp [h.i.len])]
    simp [h.i.len]
  rw [← e]
  simp [World.setCell, Array.getElem?_modify, hb]
end
/-- What one extension makes of a Client. -/
def cliF (st : Cl) (kind : Int) (s : List UInt8) (last : Bool) : Cl × List UInt8 × Int :=
  if kind = 43 then ({ st with vers := (numsS s 0 1 4).1 }, (numsS s 0 1 4).2)
  else if kind = 10 then ({ st with grps := (numsS s 0 2 4).1 }, (numsS s 0 2 4).2)
  else if kind = 13 then ({ st with schs := (numsS s 0 2 4).1 }, (numsS s 0 2 4).2)
  else if kind = 51 then ({ st with shs := (keysS s 0).1 }, (keysS s 0).2)
  else if kind = 44 then ({ st with cook := (vecS s 0 2 1 64).1 }, (vecS s 0 2 1 64).2)
  else if kind = 45 then ({ st with modes := (vecS s 0 1 1 4).1 }, (vecS s 0 1 1 4).2)
  else if kind = 41 then ({ st with ids := (offS s 0).1.1, bnd := (offS s 0).1.2 }, (offS s 0).2.1, if last then (offS s 0).2.2 else rm (offS s 0).2.2 3)
  else (st, skipS s 0)
theorem knownCE : Known 56 := fun _ _ => by kernel_rfl
/-- What the call leaves. -/
def CeR (q0 : Nat) (S : Nat → Prop) (w : World) (q g : Nat) (y : Cl × List UInt8 × Int) : Ending → World → Prop := ReadsR w q g y.2 (fun w' => ClAt q0 w' (fun k => S k ∨ w.heap.size ≤ k) y.1) (· = q0)
theorem CeR.of {q0 : Nat} {S : Nat → Prop} {w w2 : World} {q g : Nat} (y : Cl × List UInt8 × Int) (z : Z10) (h : ClB w2 q0 (fun k => S k ∨ w.heap.size ≤ k) y.1 z) (hc : Cur w2 q g y.2.1 y.2.2) (ho : Only (fun k => k = q ∨ k = q0) w w2) : CeR q0 S w q g y (.returned ret0) w2 := ⟨rfl, hc, ⟨z, h⟩, ho⟩

set_option maxHeartbeats 4000000 in
theorem ce43 (q0 : Nat) (w : World) (S : Nat → Prop) (st : Cl) (z : Z10) (q g : Nat) (s : List UInt8) (last : Bool) (hA : ClB w q0 S st z) (hSq : ¬ S q) (hS0 : ¬ S q0) (hqq : q ≠ q0) (hgq : g ≠ q0) (hC : Cur w q g s 0) (hl : s.length ≤ 140737488355328) : Calls Try.prog 56 #[rp q0, .int .i64 43, rp q, .bool last] w (CeR q0 S w q g (cliF st 43 s last)) := by
  have hF : cliF st 43 s last = ({ st with vers := (numsS s 0 1 4).1 }, (numsS s 0 1 4).2) := rfl
  rw [hF]
  have HU := Lib.hid (numbers_c q g s 0 1 4 w hC hl)
  clear hF
  generalize numsS s 0 1 4 = u at *
  have HA := Lib.hid hA
  have hlt := hA.b.lt
  clear hA hC
  go_enter Try.func56, Try.ntmps56
  go_wp2_with (first
    | (go_at_call 54; refine HU.out.mono ?_; rintro e w1 ⟨p, n, c, rfl, hS, hc, ho⟩; have H1 := Lib.hid (And.intro (HA.out.only ho (fun k hk => by subst hk; exact ⟨hSq, hqq⟩)) (And.intro hc (And.intro ho (hS.mono (T := fun k => S k ∨ w.heap.size ≤ k) (fun _ _ h => .inr h))))); have c34 := H1.out.1.cell 2; have f34 := H1.out.1.b.fr 34; clear hc ho hS))
  go_end0
  have hw := H1.out.1.mono (T := fun k => S k ∨ w.heap.size ≤ k) (fun _ _ h => .inl h)
  have hp := hw.put (by rintro (h | h); exact hS0 h; omega) 2 (.slice p n c) { st with vers := u.1 } { z with p3 := p, n3 := n, c3 := c } rfl rfl ⟨hw.i.len, hw.i.s1, hw.i.s2, H1.out.2.2.2, hw.i.s4, hw.i.s5, hw.i.s6, hw.i.s7, hw.i.s8, hw.i.s9, hw.i.s10⟩
  exact CeR.of _ _ hp (cur_set H1.out.2.1 hqq hgq _) (only_set H1.out.2.2.1 _ _)

set_option maxHeartbeats 4000000 in
theorem ce10 (q0 : Nat) (w : World) (S : Nat → Prop) (st : Cl) (z : Z10) (q g : Nat) (s : List UInt8) (last : Bool) (hA : ClB w q0 S st z) (hSq : ¬ S q) (hS0 : ¬ S q0) (hqq : q ≠ q0) (hgq : g ≠ q0) (hC : Cur w q g s 0) (hl : s.length ≤ 140737488355328) : Calls Try.prog 56 #[rp q0, .int .i64 10, rp q, .bool last] w (CeR q0 S w q g (cliF st 10 s last)) := by
  have hF : cliF st 10 s last = ({ st with grps := (numsS s 0 2 4).1 }, (numsS s 0 2 4).2) := rfl
  rw [hF]
  have HU := Lib.hid (numbers_c q g s 0 2 4 w hC hl)
  clear hF
  generalize numsS s 0 2 4 = u at *
  have HA := Lib.hid hA
  have hlt := hA.b.lt
  clear hA hC
  go_enter Try.func56, Try.ntmps56
  go_wp2_with (first
    | (go_at_call 54; refine HU.out.mono ?_; rintro e w1 ⟨p, n, c, rfl, hS, hc, ho⟩; have H1 := Lib.hid (And.intro (HA.out.only ho (fun k hk => by subst hk; exact ⟨hSq, hqq⟩)) (And.intro hc (And.intro ho (hS.mono (T := fun k => S k ∨ w.heap.size ≤ k) (fun _ _ h => .inr h))))); have c35 := H1.out.1.cell 3; have f35 := H1.out.1.b.fr 35; clear hc ho hS))
  go_end0
  have hw := H1.out.1.mono (T := fun k => S k ∨ w.heap.size ≤ k) (fun _ _ h => .inl h)
  have hp := hw.put (by rintro (h | h); exact hS0 h; omega) 3 (.slice p n c) { st with grps := u.1 } { z with p4 := p, n4 := n, c4 := c } rfl rfl ⟨hw.i.len, hw.i.s1, hw.i.s2, hw.i.s3, H1.out.2.2.2, hw.i.s5, hw.i.s6, hw.i.s7, hw.i.s8, hw.i.s9, hw.i.s10⟩
  exact CeR.of _ _ hp (cur_set H1.out.2.1 hqq hgq _) (only_set H1.out.2.2.1 _ _)

set_option maxHeartbeats 4000000 in
theorem ce13 (q0 : Nat) (w : World) (S : Nat → Prop) (st : Cl) (z : Z10) (q g : Nat) (s : List UInt8) (last : Bool) (hA : ClB w q0 S st z) (hSq : ¬ S q) (hS0 : ¬ S q0) (hqq : q ≠ q0) (hgq : g ≠ q0) (hC : Cur w q g s 0) (hl : s.length ≤ 140737488355328) : Calls Try.prog 56 #[rp q0, .int .i64 13, rp q, .bool last] w (CeR q0 S w q g (cliF st 13 s last)) := by
  have hF : cliF st 13 s last = ({ st with schs := (numsS s 0 2 4).1 }, (numsS s 0 2 4).2) := rfl
  rw [hF]
  have HU := Lib.hid (numbers_c q g s 0 2 4 w hC hl)
  clear hF
  generalize numsS s 0 2 4 = u at *
  have HA := Lib.hid hA
  have hlt := hA.b.lt
  clear hA hC
  go_enter Try.func56, Try.ntmps56
  go_wp2_with (first
    | (go_at_call 54; refine HU.out.mono ?_; rintro e w1 ⟨p, n, c, rfl, hS, hc, ho⟩; have H1 := Lib.hid (And.intro (HA.out.only ho (fun k hk => by subst hk; exact ⟨hSq, hqq⟩)) (And.intro hc (And.intro ho (hS.mono (T := fun k => S k ∨ w.heap.size ≤ k) (fun _ _ h => .inr h))))); have c36 := H1.out.1.cell 4; have f36 := H1.out.1.b.fr 36; clear hc ho hS))
  go_end0
  have hw := H1.out.1.mono (T := fun k => S k ∨ w.heap.size ≤ k) (fun _ _ h => .inl h)
  have hp := hw.put (by rintro (h | h); exact hS0 h; omega) 4 (.slice p n c) { st with schs := u.1 } { z with p5 := p, n5 := n, c5 := c } rfl rfl ⟨hw.i.len, hw.i.s1, hw.i.s2, hw.i.s3, hw.i.s4, H1.out.2.2.2, hw.i.s6, hw.i.s7, hw.i.s8, hw.i.s9, hw.i.s10⟩
  exact CeR.of _ _ hp (cur_set H1.out.2.1 hqq hgq _) (only_set H1.out.2.2.1 _ _)

set_option maxHeartbeats 4000000 in
theorem ce51 (q0 : Nat) (w : World) (S : Nat → Prop) (st : Cl) (z : Z10) (q g : Nat) (s : List UInt8) (last : Bool) (hA : ClB w q0 S st z) (hSq : ¬ S q) (hS0 : ¬ S q0) (hqq : q ≠ q0) (hgq : g ≠ q0) (hC : Cur w q g s 0) (hl : s.length ≤ 140737488355328) : Calls Try.prog 56 #[rp q0, .int .i64 51, rp q, .bool last] w (CeR q0 S w q g (cliF st 51 s last)) := by
  have hF : cliF st 51 s last = ({ st with shs := (keysS s 0).1 }, (keysS s 0).2) := rfl
  rw [hF]
  have HU := Lib.hid (keys_c q g s 0 w hC hl)
  clear hF
  generalize keysS s 0 = u at *
  have HA := Lib.hid hA
  have hlt := hA.b.lt
  clear hA hC
  go_enter Try.func56, Try.ntmps56
  go_wp2_with (first
    | (go_at_call 101; refine HU.out.mono ?_; rintro e w1 ⟨p, n, c, rfl, hS, hc, ho⟩; have H1 := Lib.hid (And.intro (HA.out.only ho (fun k hk => by subst hk; exact ⟨hSq, hqq⟩)) (And.intro hc (And.intro ho (hS.mono (T := fun k => S k ∨ w.heap.size ≤ k) (fun _ _ h => .inr h))))); have c37 := H1.out.1.cell 5; have f37 := H1.out.1.b.fr 37; clear hc ho hS))
  go_end0
  have hw := H1.out.1.mono (T := fun k => S k ∨ w.heap.size ≤ k) (fun _ _ h => .inl h)
  have hp := hw.put (by rintro (h | h); exact hS0 h; omega) 5 (.slice p n c) { st with shs := u.1 } { z with p6 := p, n6 := n, c6 := c } rfl rfl ⟨hw.i.len, hw.i.s1, hw.i.s2, hw.i.s3, hw.i.s4, hw.i.s5, H1.out.2.2.2, hw.i.s7, hw.i.s8, hw.i.s9, hw.i.s10⟩
  exact CeR.of _ _ hp (cur_set H1.out.2.1 hqq hgq _) (only_set H1.out.2.2.1 _ _)

set_option maxHeartbeats 4000000 in
theorem ce44 (q0 : Nat) (w : World) (S : Nat → Prop) (st : Cl) (z : Z10) (q g : Nat) (s : List UInt8) (last : Bool) (hA : ClB w q0 S st z) (hSq : ¬ S q) (hS0 : ¬ S q0) (hqq : q ≠ q0) (hgq : g ≠ q0) (hC : Cur w q g s 0) (hl : s.length ≤ 140737488355328) : Calls Try.prog 56 #[rp q0, .int .i64 44, rp q, .bool last] w (CeR q0 S w q g (cliF st 44 s last)) := by
  have hF : cliF st 44 s last = ({ st with cook := (vecS s 0 2 1 64).1 }, (vecS s 0 2 1 64).2) := rfl
  rw [hF]
  have HU := Lib.hid (vector_c q g s 0 2 1 64 w hC hl)
  clear hF
  generalize vecS s 0 2 1 64 = u at *
  have HA := Lib.hid hA
  have hlt := hA.b.lt
  clear hA hC
  go_enter Try.func56, Try.ntmps56
  go_wp2_with (first
    | (go_at_call 45; refine HU.out.mono ?_; rintro e w1 ⟨g', p, c, rfl, hg', hO, hc, ho⟩; have H1 := Lib.hid (And.intro (HA.out.only ho (fun k hk => by subst hk; exact ⟨hSq, hqq⟩)) (And.intro hc (And.intro ho (SlS.of_own (S := fun k => S k ∨ w.heap.size ≤ k) hO rfl (.inr hg'))))); have c38 := H1.out.1.cell 6; have f38 := H1.out.1.b.fr 38; clear hc ho hO))
  go_end0
  have hw := H1.out.1.mono (T := fun k => S k ∨ w.heap.size ≤ k) (fun _ _ h => .inl h)
  have hp := hw.put (by rintro (h | h); exact hS0 h; omega) 6 (.slice p u.1.length c) { st with cook := u.1 } { z with p7 := p, n7 := u.1.length, c7 := c } rfl rfl ⟨hw.i.len, hw.i.s1, hw.i.s2, hw.i.s3, hw.i.s4, hw.i.s5, hw.i.s6, H1.out.2.2.2, hw.i.s8, hw.i.s9, hw.i.s10⟩
  exact CeR.of _ _ hp (cur_set H1.out.2.1 hqq hgq _) (only_set H1.out.2.2.1 _ _)

set_option maxHeartbeats 4000000 in
theorem ce45 (q0 : Nat) (w : World) (S : Nat → Prop) (st : Cl) (z : Z10) (q g : Nat) (s : List UInt8) (last : Bool) (hA : ClB w q0 S st z) (hSq : ¬ S q) (hS0 : ¬ S q0) (hqq : q ≠ q0) (hgq : g ≠ q0) (hC : Cur w q g s 0) (hl : s.length ≤ 140737488355328) : Calls Try.prog 56 #[rp q0, .int .i64 45, rp q, .bool last] w (CeR q0 S w q g (cliF st 45 s last)) := by
  have hF : cliF st 45 s last = ({ st with modes := (vecS s 0 1 1 4).1 }, (vecS s 0 1 1 4).2) := rfl
  rw [hF]
  have HU := Lib.hid (vector_c q g s 0 1 1 4 w hC hl)
  clear hF
  generalize vecS s 0 1 1 4 = u at *
  have HA := Lib.hid hA
  have hlt := hA.b.lt
  clear hA hC
  go_enter Try.func56, Try.ntmps56
  go_wp2_with (first
    | (go_at_call 45; refine HU.out.mono ?_; rintro e w1 ⟨g', p, c, rfl, hg', hO, hc, ho⟩; have H1 := Lib.hid (And.intro (HA.out.only ho (fun k hk => by subst hk; exact ⟨hSq, hqq⟩)) (And.intro hc (And.intro ho (SlS.of_own (S := fun k => S k ∨ w.heap.size ≤ k) hO rfl (.inr hg'))))); have c39 := H1.out.1.cell 7; have f39 := H1.out.1.b.fr 39; clear hc ho hO))
  go_end0
  have hw := H1.out.1.mono (T := fun k => S k ∨ w.heap.size ≤ k) (fun _ _ h => .inl h)
  have hp := hw.put (by rintro (h | h); exact hS0 h; omega) 7 (.slice p u.1.length c) { st with modes := u.1 } { z with p8 := p, n8 := u.1.length, c8 := c } rfl rfl ⟨hw.i.len, hw.i.s1, hw.i.s2, hw.i.s3, hw.i.s4, hw.i.s5, hw.i.s6, hw.i.s7, H1.out.2.2.2, hw.i.s9, hw.i.s10⟩
  exact CeR.of _ _ hp (cur_set H1.out.2.1 hqq hgq _) (only_set H1.out.2.2.1 _ _)

set_option maxHeartbeats 4000000 in
theorem ce41 (q0 : Nat) (w : World) (S : Nat → Prop) (st : Cl) (z : Z10) (q g : Nat) (s : List UInt8) (last : Bool) (hA : ClB w q0 S st z) (hSq : ¬ S q) (hS0 : ¬ S q0) (hqq : q ≠ q0) (hgq : g ≠ q0) (hC : Cur w q g s 0) (hl : s.length ≤ 140737488355328) : Calls Try.prog 56 #[rp q0, .int .i64 41, rp q, .bool last] w (CeR q0 S w q g (cliF st 41 s last)) := by
  have hF : cliF st 41 s last = ({ st with ids := (offS s 0).1.1, bnd := (offS s 0).1.2 }, (offS s 0).2.1, if last then (offS s 0).2.2 else rm (offS s 0).2.2 3) := rfl
  rw [hF]
  have HU := Lib.hid (offered_c q g s 0 w hC hl)
  clear hF
  generalize offS s 0 = u at *
  obtain ⟨⟨u1, u2⟩, u3, u4⟩ := u
  simp only at HU ⊢
  have HA := Lib.hid hA
  have hlt := hA.b.lt
  have hql := hC.lt
  clear hA hC
  cases last <;> (
    go_enter Try.func56, Try.ntmps56
    go_wp2_with (first
      | (go_at_call 102; refine HU.out.mono ?_; rintro e w1 ⟨p, n, c, p', n', c', rfl, hS, hS', hc, ho⟩; have H1 := Lib.hid (And.intro (HA.out.only ho (fun k hk => by subst hk; exact ⟨hSq, hqq⟩)) (And.intro hc (And.intro ho (And.intro (hS.mono (T := fun k => S k ∨ w.heap.size ≤ k) (fun _ _ h => .inr h)) (hS'.mono (T := fun k => S k ∨ w.heap.size ≤ k) (fun _ _ h => .inr h)))))); have c40 := H1.out.1.cell 8; have f40 := H1.out.1.b.fr 40; have hw := H1.out.1.mono (T := fun k => S k ∨ w.heap.size ≤ k) (fun _ _ h => .inl h); have hp := hw.put (by rintro (h | h); exact hS0 h; omega) 8 (.slice p n c) { st with ids := u1 } { z with p9 := p, n9 := n, c9 := c } rfl rfl ⟨hw.i.len, hw.i.s1, hw.i.s2, hw.i.s3, hw.i.s4, hw.i.s5, hw.i.s6, hw.i.s7, hw.i.s8, H1.out.2.2.2.1, hw.i.s10⟩; have c41 := hp.cell 9; have f41 := hp.b.fr 41; have d41 := hw.cell 9; have g41 := hw.b.fr 41; have H2 := Lib.hid (And.intro hp (And.intro (cur_set (o := 40) H1.out.2.1 hqq hgq (.slice p n c)) (only_set (q0 := q0) H1.out.2.2.1 40 (.slice p n c)))); have hp3 := hp.put (by rintro (h | h); exact hS0 h; omega) 9 (.slice p' n' c') { st with ids := u1, bnd := u2 } { z with p9 := p, n9 := n, c9 := c, p10 := p', n10 := n', c10 := c' } rfl rfl ⟨hp.i.len, hp.i.s1, hp.i.s2, hp.i.s3, hp.i.s4, hp.i.s5, hp.i.s6, hp.i.s7, hp.i.s8, hp.i.s9, ((H1.out.2.2.2.2).only ((Only.refl (fun k => k = q0) w1).setCell _ _ (.inl rfl)) (by rintro k (hk | hk) e; exact hS0 (e ▸ hk); omega) : SlBd _ _ p' n' c' u2)⟩; have H3 := Lib.hid (And.intro hp3 (And.intro (cur_set (o := 41) H2.out.2.1 hqq hgq (.slice p' n' c')) (H2.out.2.2.setCell ⟨q0, 41, none⟩ (.slice p' n' c') (.inl (.inr rfl))))); clear hc ho hS hS' hw hp hp3)
      | (go_at_call 49; refine (fail_c q g u3 u4 _ H3.out.2.1).mono ?_; rintro e w5 ⟨rfl, hc5, ho5⟩))
    go_end0
    first
      | exact CeR.of (w := w) ({ st with ids := u1, bnd := u2 }, u3, _) _ H3.out.1 H3.out.2.1 H3.out.2.2
      | exact CeR.of (w := w) ({ st with ids := u1, bnd := u2 }, u3, _) _ (H3.out.1.only ho5 (fun k hk => by subst hk; exact ⟨by rintro (h | h); exact hSq h; omega, hqq⟩)) hc5 (H3.out.2.2.then (ho5.mono (fun _ _ h => .inl h))))

set_option maxHeartbeats 4000000 in
theorem ceOther (q0 : Nat) (w : World) (S : Nat → Prop) (st : Cl) (z : Z10) (q g : Nat) (s : List UInt8) (last : Bool) (hA : ClB w q0 S st z) (hSq : ¬ S q) (hS0 : ¬ S q0) (hqq : q ≠ q0) (hgq : g ≠ q0) (hC : Cur w q g s 0) (hl : s.length ≤ 140737488355328) (kind : Int) (h1 : kind ≠ 43) (h2 : kind ≠ 10) (h3 : kind ≠ 13) (h4 : kind ≠ 51) (h5 : kind ≠ 44) (h6 : kind ≠ 45) (h7 : kind ≠ 41) : Calls Try.prog 56 #[rp q0, .int .i64 kind, rp q, .bool last] w (CeR q0 S w q g (cliF st kind s last)) := by
  have hF : cliF st kind s last = (st, skipS s 0) := by unfold cliF; rw [if_neg h1, if_neg h2, if_neg h3, if_neg h4, if_neg h5, if_neg h6, if_neg h7]
  rw [hF]
  have b1 : (kind == 43) = false := by simpa using h1
  have b2 : (kind == 10) = false := by simpa using h2
  have b3 : (kind == 13) = false := by simpa using h3
  have b4 : (kind == 51) = false := by simpa using h4
  have b5 : (kind == 44) = false := by simpa using h5
  have b6 : (kind == 45) = false := by simpa using h6
  have b7 : (kind == 41) = false := by simpa using h7
  have HA := Lib.hid (And.intro hA hC)
  clear hA hC hF h1 h2 h3 h4 h5 h6 h7
  go_enter Try.func56, Try.ntmps56
  go_wp2_with (first
    | (go_at_call 86; refine (skip_c q g s 0 _ HA.out.2 hl).mono ?_; rintro e w1 ⟨rfl, hc, ho⟩; have H1 := Lib.hid (And.intro (HA.out.1.only ho (fun k hk => by subst hk; exact ⟨hSq, hqq⟩)) (And.intro hc ho)); clear hc ho))
  go_end0
  exact CeR.of _ _ (H1.out.1.mono (fun _ _ h => .inl h)) H1.out.2.1 (H1.out.2.2.mono (fun _ _ h => .inl h))

theorem client_ext (q0 : Nat) : Ext 56 q0 (ClAt q0) cliF where
  known := knownCE
  only := fun w w' S X st h ho hX => by obtain ⟨z, h⟩ := h; exact ⟨z, h.only ho hX⟩
  mono := fun w S T st h hT => by obtain ⟨z, h⟩ := h; exact ⟨z, h.mono hT⟩
  lt := fun w S st h => by obtain ⟨z, h⟩ := h; exact h.b.lt
  run := fun w S st q g kind s last h hSq hS0 hqq hgq hC hl _ _ => by
    obtain ⟨z, h⟩ := h
    by_cases h1 : kind = 43
    · subst h1; exact ce43 q0 w S st z q g s last h hSq hS0 hqq hgq hC hl
    by_cases h2 : kind = 10
    · subst h2; exact ce10 q0 w S st z q g s last h hSq hS0 hqq hgq hC hl
    by_cases h3 : kind = 13
    · subst h3; exact ce13 q0 w S st z q g s last h hSq hS0 hqq hgq hC hl
    by_cases h4 : kind = 51
    · subst h4; exact ce51 q0 w S st z q g s last h hSq hS0 hqq hgq hC hl
    by_cases h5 : kind = 44
    · subst h5; exact ce44 q0 w S st z q g s last h hSq hS0 hqq hgq hC hl
    by_cases h6 : kind = 45
    · subst h6; exact ce45 q0 w S st z q g s last h hSq hS0 hqq hgq hC hl
    by_cases h7 : kind = 41
    · subst h7; exact ce41 q0 w S st z q g s last h hSq hS0 hqq hgq hC hl
    exact ceOther q0 w S st z q g s last h hSq hS0 hqq hgq hC hl kind h1 h2 h3 h4 h5 h6 h7
end Go.Proofs.Ytegmimnhkohaoaa
