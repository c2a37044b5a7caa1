/-
  The contracts of relayref08's u16, vec, ext, share. Conditions: at most 2 to the 47th bytes.
-/
import Derived.Test.YtegmimnhkohaoaaZg1
import Derived.Deep.RegionHeld3
import Derived.Deep.CutBlock
import Derived.Deep.CutRange
import Derived.Lib.Mul64
namespace Go.Proofs.Ytegmimnhkohaoaa
open Go.RowKit Go.Kx
set_option linter.unusedVariables false
set_option linter.unusedSimpArgs false

/-- The low eight bits. -/
def b8 (z : Int) : UInt8 := UInt8.ofNat (z % 256).toNat
theorem b8_nat (z : Int) : ((b8 z).toNat : Int) = z % 256 := by
  unfold b8
  rw [UInt8.toNat_ofNat']
  omega
def u16L (n : Int) : List UInt8 := [b8 (n / 256), b8 n]
theorem u16L_nat (n : Nat) (h : n < 65536) : u16L (n : Int) = be n 2 := by
  have e1 : b8 ((n : Int) / 256) = UInt8.ofNat (n / 256 ^ 1) := by
    unfold b8
    apply UInt8.toNat_inj.1
    rw [UInt8.toNat_ofNat', UInt8.toNat_ofNat']
    omega
  have e2 : b8 (n : Int) = UInt8.ofNat (n / 256 ^ 0) := by
    unfold b8
    apply UInt8.toNat_inj.1
    rw [UInt8.toNat_ofNat', UInt8.toNat_ofNat']
    omega
  unfold u16L
  rw [e1, e2]
  rfl
theorem Own.lit (w : World) (l : List UInt8) (h : l.length ≤ 1000) : Own (w.alloc (.cells (l.map B8).toArray 5)) w.heap.size (.slice (some ⟨w.heap.size, 0, none⟩) l.length l.length) l :=
  ⟨⟨by simp, .inr ⟨w.heap.size, l.length, (l.map B8).toArray, rfl, Nat.zero_le _, heap_alloc_new w _, Nat.le_refl _, by unfold maxLen; omega, by simp, by simp [List.take_of_length_le]⟩⟩, .inr rfl⟩
theorem u16_c (n : Int) (w : World) : Calls Try.prog 40 #[.int .i64 n] w (PutYes w (u16L n)) := by
  have h := Own.lit w (u16L n) (by simp [u16L])
  have e : (u16L n).map B8 = [.int .u8 (n / 256 % 256), .int .u8 (n % 256)] := by simp [u16L, B8, b8_nat]
  rw [e] at h
  have H := Lib.hid h
  clear h e
  go_enter Try.func40, Try.ntmps40
  go_wp2
  go_ret
  exact ⟨w.heap.size, 2, 2, rfl, rfl, Nat.le_refl _, by rw [World.size_alloc]; omega, Nat.le_refl _, by unfold maxLen; omega, H.out, (Below.refl _ _).alloc (Nat.le_refl _) _⟩

/-- One round of vec. -/
def VRel (w : World) (n W : Nat) (v5 v6 : Value) (wr : World) : Prop :=
  ∃ (k : Nat) (z : Int) (g : Nat) (dn : List UInt8), v6 = .int .i64 z ∧ z = (k : Int) - 1 ∧ k ≤ W ∧ w.heap.size ≤ g ∧ (k < W → g < wr.heap.size) ∧ Own wr g v5 dn ∧ dn ++ be n k = be n W ∧ Below w.heap.size w wr

set_option maxHeartbeats 4000000 in
set_option maxRecDepth 100000 in
theorem rvec8_c (S : Nat → Prop) (p : Option Addr) (n c : Nat) (l : List UInt8) (W : Nat) (w : World) (hR : Rd w S p l) (hp : p = none → c = 0) (hl : l.length + 4 ≤ 140737488355328) (hm : l.length = n) (hW : W = 1 ∨ W = 2) :
    Calls Try.prog 41 #[.slice p n c, .int .i64 (W : Int)] w (PutYes w (be n W ++ l)) := by
  suffices H : ∀ V, V = W → Calls Try.prog 41 #[.slice p n c, .int .i64 (W : Int)] w (PutYes w (be n V ++ l)) from H W rfl
  intro V hV
  have hV4 : 1 ≤ V ∧ V ≤ 2 := by omega
  have hn4 : n ≤ 140737488355328 := by omega
  have HR := Lib.hid (And.intro hR (And.intro hp hm))
  clear hR hp hm
  rcases hW with rfl | rfl
  · show Calls Try.prog 41 #[.slice p n c, .int .i64 1] w (PutYes w (be n V ++ l))
    go_enter Try.func41, Try.ntmps41
    go_wp2
    go_loopw [5, 6] (fun v5 v6 wr => VRel w n V v5 v6 wr) (fun _ v6 _ => (intOf v6 + 1).toNat)
    case atStart => exact ⟨V, _, w.heap.size, [], rfl, by omega, by omega, Nat.le_refl _, by omega, Own.nil _ _, by simp, Below.refl _ _⟩
    case round =>
      obtain ⟨k, z, g, dn, rfl, hz, hk, hg, hgl, hO, hdn, hB⟩ := hrel
      have HO := Lib.hid hO
      have HDN := Lib.hid hdn
      have HBB := Lib.hid hB
      have hdl : dn.length + k ≤ 2 := by
        have := congrArg List.length hdn
        rw [List.length_append, be_length, be_length] at this
        omega
      have hs : w.heap.size ≤ wr.heap.size := hB.size
      clear hO hdn hB
      by_cases hk0 : k = 0
      · subst hk0
        obtain rfl : z = -1 := by omega
        clear hz hk
        have hd : dn = be n V := by have := HDN.out; simpa [be] using this
        subst hd
        clear HDN
        have hRr := HR.out.1.below HBB.out
        have HRr := Lib.hid hRr
        clear hRr
        go_wp2_with (at_builtin; refine wpList_append_bytes _ rfl _ _ 23 rfl Try.underlying23 Try.info5 g u5 (be n V) rfl HO.out S p n c l rfl HR.out.2.2 HR.out.2.1 HRr.out (by rw [be_length]; omega) ?_; intro g' v' w' hO' hg' ho' hnil; have H9 := Lib.hid (And.intro hO' (And.intro hg' (And.intro ho' hnil))); clear hO' hg' ho' hnil)
        go_ret
        have hnn : v' ≠ .slice none 0 0 := by
          intro e
          have h := H9.out.1.form
          rw [e] at h
          obtain ⟨_, _, h1, _⟩ := h
          simp at h1
          have h3 := h1.2.1
          rw [be_length] at h3
          omega
        obtain ⟨c', rfl, h1, h2, h3⟩ := H9.out.1.shape hnn
        have hsz := H9.out.2.2.1.size
        refine ⟨g', _, c', rfl, rfl, by rcases H9.out.2.1 with h | h <;> omega, h3, h1, h2, H9.out.1, below_only HBB.out hs H9.out.2.2.1 (by intro k hk e; omega)⟩
      · obtain ⟨j, rfl⟩ : ∃ j, k = j + 1 := ⟨k - 1, by omega⟩
        have hj : (j = 0 ∧ z = 0) ∨ (j = 1 ∧ z = 1) := by omega
        have HK := Lib.hid hk
        clear hk
        rcases hj with ⟨hj, rfl⟩ | ⟨hj, rfl⟩
        all_goals
          clear hz
          have HJ := Lib.hid hj
          clear hj
          go_wp2_with (at_builtin; refine wpList_append_row rfl _ _ 23 rfl 5 (.int .u8 0) 1 1 Try.underlying23 Try.info5 rfl (by decide) g u5 dn.length (dn.map B8) rfl (Row.only HO.out ((Only.refl (fun _ => False) wr).alloc _) (fun h => h)) ⟨wr.heap.size, 0, none⟩ 1 1 [_] rfl rfl (cell_one wr _ _) (by simp [Value.oneCell']) (by simp only [maxLen]; omega) (by omega) (wr.heap.size + 1) (by simp) ?_; intro gB' v7' w7 hrow hg' hO7)
          have z7 := hO7.size
          simp only [World.size_alloc] at z7
          have hb7 := below_only (HBB.out.alloc HBB.out.size _) (by simp; have := HBB.out.size; omega) hO7 (by intro k hk e; omega)
          obtain ⟨_, _, _, hf, _⟩ := Row.form hrow
          refine ⟨⟨j, _, gB', dn ++ [UInt8.ofNat (n / 256 ^ j)], rfl, by have := HJ.out; omega, by have := HK.out; omega, by omega, fun _ => (hf (by omega)).2, ?_, by rw [List.append_assoc]; exact HDN.out, hb7⟩, by simp [intOf]⟩
          refine own_snoc _ hrow ?_
          rw [HJ.out, UInt8.toNat_ofNat']
          omega
  · show Calls Try.prog 41 #[.slice p n c, .int .i64 2] w (PutYes w (be n V ++ l))
    go_enter Try.func41, Try.ntmps41
    go_wp2
    go_loopw [5, 6] (fun v5 v6 wr => VRel w n V v5 v6 wr) (fun _ v6 _ => (intOf v6 + 1).toNat)
    case atStart => exact ⟨V, _, w.heap.size, [], rfl, by omega, by omega, Nat.le_refl _, by omega, Own.nil _ _, by simp, Below.refl _ _⟩
    case round =>
      obtain ⟨k, z, g, dn, rfl, hz, hk, hg, hgl, hO, hdn, hB⟩ := hrel
      have HO := Lib.hid hO
      have HDN := Lib.hid hdn
      have HBB := Lib.hid hB
      have hdl : dn.length + k ≤ 2 := by
        have := congrArg List.length hdn
        rw [List.length_append, be_length, be_length] at this
        omega
      have hs : w.heap.size ≤ wr.heap.size := hB.size
      clear hO hdn hB
      by_cases hk0 : k = 0
      · subst hk0
        obtain rfl : z = -1 := by omega
        clear hz hk
        have hd : dn = be n V := by have := HDN.out; simpa [be] using this
        subst hd
        clear HDN
        have hRr := HR.out.1.below HBB.out
        have HRr := Lib.hid hRr
        clear hRr
        go_wp2_with (at_builtin; refine wpList_append_bytes _ rfl _ _ 23 rfl Try.underlying23 Try.info5 g u5 (be n V) rfl HO.out S p n c l rfl HR.out.2.2 HR.out.2.1 HRr.out (by rw [be_length]; omega) ?_; intro g' v' w' hO' hg' ho' hnil; have H9 := Lib.hid (And.intro hO' (And.intro hg' (And.intro ho' hnil))); clear hO' hg' ho' hnil)
        go_ret
        have hnn : v' ≠ .slice none 0 0 := by
          intro e
          have h := H9.out.1.form
          rw [e] at h
          obtain ⟨_, _, h1, _⟩ := h
          simp at h1
          have h3 := h1.2.1
          rw [be_length] at h3
          omega
        obtain ⟨c', rfl, h1, h2, h3⟩ := H9.out.1.shape hnn
        have hsz := H9.out.2.2.1.size
        refine ⟨g', _, c', rfl, rfl, by rcases H9.out.2.1 with h | h <;> omega, h3, h1, h2, H9.out.1, below_only HBB.out hs H9.out.2.2.1 (by intro k hk e; omega)⟩
      · obtain ⟨j, rfl⟩ : ∃ j, k = j + 1 := ⟨k - 1, by omega⟩
        have hj : (j = 0 ∧ z = 0) ∨ (j = 1 ∧ z = 1) := by omega
        have HK := Lib.hid hk
        clear hk
        rcases hj with ⟨hj, rfl⟩ | ⟨hj, rfl⟩
        all_goals
          clear hz
          have HJ := Lib.hid hj
          clear hj
          go_wp2_with (at_builtin; refine wpList_append_row rfl _ _ 23 rfl 5 (.int .u8 0) 1 1 Try.underlying23 Try.info5 rfl (by decide) g u5 dn.length (dn.map B8) rfl (Row.only HO.out ((Only.refl (fun _ => False) wr).alloc _) (fun h => h)) ⟨wr.heap.size, 0, none⟩ 1 1 [_] rfl rfl (cell_one wr _ _) (by simp [Value.oneCell']) (by simp only [maxLen]; omega) (by omega) (wr.heap.size + 1) (by simp) ?_; intro gB' v7' w7 hrow hg' hO7)
          have z7 := hO7.size
          simp only [World.size_alloc] at z7
          have hb7 := below_only (HBB.out.alloc HBB.out.size _) (by simp; have := HBB.out.size; omega) hO7 (by intro k hk e; omega)
          obtain ⟨_, _, _, hf, _⟩ := Row.form hrow
          refine ⟨⟨j, _, gB', dn ++ [UInt8.ofNat (n / 256 ^ j)], rfl, by have := HJ.out; omega, by have := HK.out; omega, by omega, fun _ => (hf (by omega)).2, ?_, by rw [List.append_assoc]; exact HDN.out, hb7⟩, by simp [intOf]⟩
          refine own_snoc _ hrow ?_
          rw [HJ.out, UInt8.toNat_ofNat']
          omega

theorem vec1_c (S : Nat → Prop) (p : Option Addr) (n c : Nat) (l : List UInt8) (w : World) (hR : Rd w S p l) (hp : p = none → c = 0) (hl : l.length + 4 ≤ 140737488355328) (hm : l.length = n) :
    Calls Try.prog 41 #[.slice p n c, .int .i64 1] w (PutYes w (be n 1 ++ l)) := rvec8_c S p n c l 1 w hR hp hl hm (.inl rfl)
theorem vec2_c (S : Nat → Prop) (p : Option Addr) (n c : Nat) (l : List UInt8) (w : World) (hR : Rd w S p l) (hp : p = none → c = 0) (hl : l.length + 4 ≤ 140737488355328) (hm : l.length = n) :
    Calls Try.prog 41 #[.slice p n c, .int .i64 2] w (PutYes w (be n 2 ++ l)) := rvec8_c S p n c l 2 w hR hp hl hm (.inr rfl)
theorem wext_len (kind : Int) (n : Nat) (l : List UInt8) : (u16L kind ++ (be n 2 ++ l)).length = l.length + 4 := by simp [u16L, be_length]; omega
theorem own_ne {w : World} {g : Nat} {v : Value} {l : List UInt8} (h : Own w g v l) (hl : 0 < l.length) : v ≠ .slice none 0 0 := by
  intro e
  obtain ⟨_, _, h1, _⟩ := h.form
  rw [e] at h1
  simp at h1
  omega
theorem PutYes.of {w w' : World} {g : Nat} {v : Value} {l : List UInt8} (h : Own w' g v l) (hl : 0 < l.length) (hg : w.heap.size ≤ g) (hb : Below w.heap.size w w') : PutYes w l (.returned v) w' := by
  obtain ⟨c', rfl, h1, h2, h3⟩ := h.shape (own_ne h hl)
  exact ⟨g, _, c', rfl, rfl, hg, h3, h1, h2, h, hb⟩

set_option maxHeartbeats 4000000 in
set_option maxRecDepth 100000 in
theorem rext_c (kind : Int) (S : Nat → Prop) (p : Option Addr) (n c : Nat) (l : List UInt8) (w : World) (hR : Rd w S p l) (hp : p = none → c = 0) (hl : l.length + 8 ≤ 140737488355328) (hm : l.length = n) :
    Calls Try.prog 39 #[.int .i64 kind, .slice p n c] w (PutYes w (u16L kind ++ (be n 2 ++ l))) := by
  have HR := Lib.hid (And.intro hR (And.intro hp hm))
  clear hR hp hm
  go_enter Try.func39, Try.ntmps39
  go_wp2_with (first
    | (go_at_call 40; refine (u16_c kind _).mono ?_; rintro e w1 ⟨g1, n1, c1, rfl, l1, h1, h2, h3, h4, h5, h6⟩; have H1 := Lib.hid (And.intro l1 (And.intro h5 h6)); clear l1 h5 h6)
    | (go_at_call 41; refine (vec2_c S p n c l _ (HR.out.1.below H1.out.2.2) HR.out.2.1 (by omega) HR.out.2.2).mono ?_; rintro e w2 ⟨g2, n2, c2, rfl, l2, k1, k2, k3, k4, k5, k6⟩; have H2 := Lib.hid (And.intro l2 (And.intro k5 (And.intro k6 (Own.keep H1.out.2.1 k6)))); clear l2 k5 k6)
    | (at_builtin; refine wpList_append_bytes _ rfl _ _ 23 rfl Try.underlying23 Try.info5 g1 _ (u16L kind) rfl H2.out.2.2.2 (fun k => k = g2) _ n2 c2 (be n 2 ++ l) rfl H2.out.1 (by intro h; cases h) H2.out.2.1.rd (by simp [u16L, be_length]; omega) ?_; intro g' v' w' hO' hg' ho' hnil; have H9 := Lib.hid (And.intro hO' (And.intro hg' ho')); clear hO' hg' ho' hnil))
  go_ret
  have hs := H1.out.2.2.size
  have hs2 := H2.out.2.2.1.size
  refine PutYes.of H9.out.1 (by rw [wext_len]; omega) (by rcases H9.out.2.1 with h | h <;> omega) (below_only (H1.out.2.2.trans (H2.out.2.2.1.mono hs)) (by omega) H9.out.2.2 (by intro k hk e; omega))

def shareB (g : Int) (n : Nat) : Bool := (decide (0 ≤ g) && decide (g ≤ 65535)) && (decide (1 ≤ n) && decide (n ≤ 64))
theorem rshare_c (g : Int) (p : Option Addr) (n c : Nat) (w : World) : Calls Try.prog 38 #[.agg #[.int .i64 g, .slice p n c]] w fun e w' => e = .returned (.bool (shareB g n)) ∧ Below w.heap.size w w' := by
  have hbx := Box2.new w 25 (.int .i64 g) (.slice p n c)
  have hB0 : Below w.heap.size w (w.alloc (.cells #[.int .i64 g, .slice p n c] 25)) := (Below.refl _ _).alloc (Nat.le_refl _) _
  have c0 := hbx.c0
  have c1 := hbx.c1
  have HB := Lib.hid hB0
  clear hbx hB0
  go_enter Try.func38, Try.ntmps38
  go_wp2
  all_goals go_ret
  all_goals (refine ⟨congrArg Ending.returned (congrArg Value.bool ?_), HB.out⟩; unfold shareB; rw [Bool.eq_iff_iff]; simp only [Bool.and_eq_true, decide_eq_true_eq, Bool.false_eq_true, false_iff]; omega)

/-- Values that lie somewhere. -/
def RdV (w : World) (S : Nat → Prop) (p : Option Addr) (l : List Value) : Prop := ∀ i (h : i < l.length), ∃ a, p = some a ∧ S a.block ∧ w.cell? (a.add i) = some l[i]
theorem RdV.nil (w : World) (S : Nat → Prop) (p : Option Addr) : RdV w S p [] := fun i h => absurd h (by simp)
theorem RdV.none_nil {w : World} {S : Nat → Prop} {l : List Value} (h : RdV w S none l) : l = [] := by
  cases l with
  | nil => rfl
  | cons b r => obtain ⟨a, ha, _⟩ := h 0 (by simp); cases ha
theorem RdV.kept {w w' : World} {S : Nat → Prop} {p : Option Addr} {l : List Value} (h : RdV w S p l) (hk : ∀ k, k < w.heap.size → S k → w'.heap[k]? = w.heap[k]?) : RdV w' S p l := by
  intro i hi
  obtain ⟨a, rfl, hs, hc⟩ := h i hi
  refine ⟨a, rfl, hs, ?_⟩
  have hlt : a.block < w.heap.size := by have := World.block_lt_of_cell? w _ hc; rwa [add_block] at this
  exact (World.cell?_of_block (w := w) (w' := w') (by rw [add_block]; exact hk a.block hlt hs)).trans hc
theorem RdV.only {w w' : World} {S r : Nat → Prop} {p : Option Addr} {l : List Value} (h : RdV w S p l) (ho : Only r w w') (hd : ∀ k, S k → ¬ r k) : RdV w' S p l := h.kept fun k hk hs => ho.block k hk (hd k hs)
theorem RdV.below {w w' : World} {S : Nat → Prop} {p : Option Addr} {l : List Value} (h : RdV w S p l) (ho : Below w.heap.size w w') : RdV w' S p l := h.kept fun k hk _ => ho.block k hk
theorem RdV.mono {w : World} {S T : Nat → Prop} {p : Option Addr} {l : List Value} (h : RdV w S p l) (hd : ∀ k, k < w.heap.size → S k → T k) : RdV w T p l := by
  intro i hi
  obtain ⟨a, rfl, hs, hc⟩ := h i hi
  exact ⟨a, rfl, hd _ (by have := World.block_lt_of_cell? w _ hc; rwa [add_block] at this) hs, hc⟩
theorem RdV.at {w : World} {S : Nat → Prop} {p : Option Addr} {l : List Value} (h : RdV w S p l) (hne : 0 < l.length) :
    ∃ g o, p = some ⟨g, o, none⟩ ∧ S g ∧ g < w.heap.size ∧ ∀ i (h : i < l.length), w.cell? ⟨g, o + i, none⟩ = some l[i] := by
  obtain ⟨⟨g, o, s⟩, rfl, hS, hc⟩ := h 0 hne
  have hs : s = none := by simpa [Addr.add] using World.cell?_spot hc
  subst hs
  refine ⟨g, o, rfl, hS, by have := World.block_lt_of_cell? w _ hc; simpa [Addr.add] using this, fun i hi => ?_⟩
  obtain ⟨a, ha, _, hc'⟩ := h i hi
  cases ha
  simp only [Addr.add] at hc'
  split at hc'
  · subst_vars; exact hc'
  · exact hc'
/-- A number as a cell. -/
abbrev I64 (n : Int) : Value := .int .i64 n
def RdI (w : World) (S : Nat → Prop) (p : Option Addr) (l : List Int) : Prop := RdV w S p (l.map I64)
theorem RdI.at {w : World} {S : Nat → Prop} {p : Option Addr} {l : List Int} (h : RdI w S p l) (hne : 0 < l.length) :
    ∃ g o, p = some ⟨g, o, none⟩ ∧ S g ∧ g < w.heap.size ∧ ∀ i (h : i < l.length), w.cell? ⟨g, o + i, none⟩ = some (.int .i64 l[i]) := by
  obtain ⟨g, o, h1, h2, h3, h4⟩ := RdV.at h (by simpa using hne)
  exact ⟨g, o, h1, h2, h3, fun i hi => by have := h4 i (by simpa using hi); simpa using this⟩

def in16 (x : Int) : Bool := decide (0 ≤ x) && decide (x ≤ 65535)
def all16B (l : List Int) (most : Int) : Bool := l.all in16 && decide ((l.length : Int) ≤ most)
theorem all_take_succ {α : Type} (f : α → Bool) (l : List α) (i : Nat) (h : i < l.length) : (l.take (i + 1)).all f = ((l.take i).all f && f l[i]) := by
  rw [List.take_succ_eq_append_getElem h, List.all_append]
  simp
theorem all_of_not {α : Type} (f : α → Bool) (l : List α) (i : Nat) (h : i < l.length) (hf : f l[i] = false) : l.all f = false := by
  rw [List.all_eq_false]
  exact ⟨l[i], List.getElem_mem h, by simp [hf]⟩
set_option maxHeartbeats 4000000 in
set_option maxRecDepth 100000 in
theorem all16_c (S : Nat → Prop) (p : Option Addr) (n c : Nat) (l : List Int) (most : Int) (w : World) (hR : RdI w S p l) (hm : l.length = n) (hn : n ≤ 140737488355328) : Calls Try.prog 36 #[.slice p n c, .int .i64 most] w fun e w' => e = .returned (.bool (all16B l most)) ∧ w = w' := by
  subst hm
  have HR := Lib.hid hR
  clear hR
  obtain ⟨r, hr⟩ : ∃ r, r = all16B l most := ⟨_, rfl⟩
  rw [← hr]
  have HX := Lib.hid hr
  clear hr
  go_enter Try.func36, Try.ntmps36
  go_wp2
  go_loop [5] (fun v5 => ∃ i : Nat, i ≤ l.length ∧ v5 = .int .i64 (i : Int) ∧ (l.take i).all in16 = true) (fun v5 => (l.length - (intOf v5).toNat))
  case atStart => exact ⟨0, by omega, rfl, rfl⟩
  case round =>
    obtain ⟨i, hi, rfl, hal⟩ := hrel
    have HA := Lib.hid hal
    clear hal
    by_cases hlt : i < l.length
    · obtain ⟨g, o, rfl, -, hg, hc⟩ := HR.out.at (by omega)
      have hci := hc i hlt
      have hts := all_take_succ in16 l i hlt
      have hno := all_of_not in16 l i hlt
      obtain ⟨x, hx⟩ : ∃ x, x = l[i] := ⟨_, rfl⟩
      rw [← hx] at hci hts hno
      have HT := Lib.hid (And.intro hts hno)
      clear hts hno hx hc
      have HLT := Lib.hid hlt
      by_cases h1 : x < 0
      · have hf : in16 x = false := by unfold in16; simp; omega
        have HF := Lib.hid (HT.out.2 hf)
        clear hf
        go_wp2
        go_ret
        refine ⟨congrArg Ending.returned (congrArg Value.bool ?_), rfl⟩
        rw [HX.out]; unfold all16B; rw [HF.out]; rfl
      · by_cases h2 : 65535 < x
        · have hf : in16 x = false := by unfold in16; simp; omega
          have HF := Lib.hid (HT.out.2 hf)
          clear hf
          go_wp2
          go_ret
          refine ⟨congrArg Ending.returned (congrArg Value.bool ?_), rfl⟩
          rw [HX.out]; unfold all16B; rw [HF.out]; rfl
        · have hf : in16 x = true := by unfold in16; simp; omega
          have HF := Lib.hid hf
          clear hf
          go_wp2
          go_round
          case rel => exact ⟨i + 1, by have := HLT.out; omega, by go_num, by rw [HT.out.1, HA.out, HF.out]; rfl⟩
          case measure => have := HLT.out; simp [intOf]; omega
    · obtain rfl : i = l.length := by omega
      have hl : l.take l.length = l := List.take_length
      have HL := Lib.hid hl
      clear hl
      go_wp2
      go_ret
      refine ⟨congrArg Ending.returned (congrArg Value.bool ?_), rfl⟩
      have h := HA.out
      rw [HL.out] at h
      rw [HX.out]; unfold all16B; rw [h]; rfl
end Go.Proofs.Ytegmimnhkohaoaa
/-
  The contracts of package hello's writer: must, uint, vector, end. Conditions: at most 2 to the 46th bytes stand in it.
-/
namespace Go.Proofs.Ytegmimnhkohaoaa
open Go.RowKit Go.Kx
set_option linter.unusedVariables false
set_option linter.unusedSimpArgs false

theorem putOk_cast {N V : Nat} (h : putOk (N : Int) (V : Int)) : (1 ≤ V ∧ V ≤ 4) ∧ N < 256 ^ V := by
  obtain ⟨h1, h2, h3⟩ := h
  rw [Int.toNat_natCast] at h3
  refine ⟨by omega, ?_⟩
  have e : ((256 : Int) ^ V) = ((256 ^ V : Nat) : Int) := by rw [Int.natCast_pow]; rfl
  rw [e] at h3
  exact Int.ofNat_lt.1 h3
/-- A writer in block r: the bytes that are put yet; is it bad? -/
abbrev WS := List UInt8 × Bool
structure Wr (w : World) (r : Nat) (x : WS) : Prop where
  ex : ∃ g p n c, Box2 w r 80 (.slice p n c) (.bool x.2) ∧ x.1.length = n ∧ r < g ∧ Own w g (.slice p n c) x.1
theorem Wr.lt {w : World} {r : Nat} {x : WS} (h : Wr w r x) : r < w.heap.size := by obtain ⟨g, p, n, c, hb, _⟩ := h.ex; exact hb.lt
theorem Wr.below {w w' : World} {r : Nat} {x : WS} (h : Wr w r x) (hb : Below w.heap.size w w') : Wr w' r x := by
  obtain ⟨g, p, n, c, h1, h2, h3, h4⟩ := h.ex
  exact ⟨g, p, n, c, h1.below hb, h2, h3, Own.keep h4 hb⟩
theorem Wr.new (w : World) : Wr (w.alloc (.cells #[.slice none 0 0, .bool false] 80)) w.heap.size ([], false) :=
  ⟨w.heap.size + 1, none, 0, 0, Box2.new _ _ _ _, rfl, by omega, Own.nil _ _⟩

/-- What puts more of a number, of bytes; what notes that something can't be. -/
def wU (x : WS) (n W : Int) : WS := if putOk n W then (x.1 ++ be n.toNat W.toNat, x.2) else ([], true)
def wV (x : WS) (v : List UInt8) (W l m : Int) : WS := if putOk (v.length : Int) W then (x.1 ++ (be v.length W.toNat ++ v), x.2 || !(decide (l ≤ (v.length : Int)) && decide ((v.length : Int) ≤ m))) else ([], true)
def wM (x : WS) (ok : Bool) : WS := (x.1, x.2 || !ok)
theorem wU_len (x : WS) (n W : Int) (h : W ≤ 4) : (wU x n W).1.length ≤ x.1.length + 4 := by
  unfold wU
  split
  · simp [be_length]; omega
  · simp
theorem wV_len (x : WS) (v : List UInt8) (W l m : Int) (h : W ≤ 2) : (wV x v W l m).1.length ≤ x.1.length + 65537 := by
  unfold wV
  split
  · rename_i hk
    obtain ⟨N, rfl⟩ : ∃ N : Nat, W = N := ⟨W.toNat, by have := hk.1; omega⟩
    have h2 := (putOk_cast hk).2
    have h3 : 256 ^ N ≤ 256 ^ 2 := Nat.pow_le_pow_right (by decide) (by omega)
    simp [be_length]; omega
  · simp

theorem wmust_c (r : Nat) (ok bad bb : Bool) (bv : Value) (w : World) (hb : Box2 w r 80 bv (.bool bad)) (hbb : (bad || !ok) = bb) :
    Calls Try.prog 27 #[rp r, .bool ok] w fun e w' => e = .returned ret0 ∧ w' = w.setCell ⟨r, 1, none⟩ (.bool bb) := by
  subst hbb
  have c0 := hb.c0
  have c1 := hb.c1
  have f1 := hb.fr 1
  cases bad <;> cases ok <;> (
    go_enter Try.func27, Try.ntmps27
    go_wp2
    go_end0
    exact ⟨rfl, rfl⟩)

/-- What a call leaves of a writer. -/
def WrR (w : World) (r : Nat) (y : WS) (e : Ending) (w' : World) : Prop := e = .returned ret0 ∧ Wr w' r y ∧ Only (· = r) w w'

theorem wr_must (r : Nat) (ok : Bool) (x : WS) (w : World) (hr : Wr w r x) : Calls Try.prog 27 #[rp r, .bool ok] w (WrR w r (wM x ok)) := by
  obtain ⟨g, p, n, c, h1, h2, h3, h4⟩ := hr.ex
  refine (wmust_c r ok x.2 _ _ w h1 rfl).mono ?_
  rintro e w' ⟨rfl, rfl⟩
  have ho : Only (· = r) w (w.setCell ⟨r, 1, none⟩ (.bool (x.2 || !ok))) := (Only.refl (fun k => k = r) w).setCell _ _ (.inl rfl)
  exact ⟨rfl, ⟨g, p, n, c, h1.set1 _, h2, h3, h4.only ho (by omega)⟩, ho⟩

theorem wr_put {w w1 : World} {r g : Nat} {bv : Value} {bad b : Bool} {p : Option Addr} {n c : Nat} {l : List UInt8} (hb : Box2 w r 80 bv (.bool bad)) (h1 : Below w.heap.size w w1) (hg : r < g) (hO : Own w1 g (.slice p n c) l) (hn : l.length = n) :
    Wr ((w1.setCell ⟨r, 1, none⟩ (.bool b)).setCell ⟨r, 0, none⟩ (.slice p n c)) r (l, b) ∧ Only (· = r) w ((w1.setCell ⟨r, 1, none⟩ (.bool b)).setCell ⟨r, 0, none⟩ (.slice p n c)) := by
  have hb1 := hb.below h1
  have ho : Only (· = r) w1 ((w1.setCell ⟨r, 1, none⟩ (.bool b)).setCell ⟨r, 0, none⟩ (.slice p n c)) := ((Only.refl (fun k => k = r) w1).setCell _ _ (.inl rfl)).setCell _ _ (.inl rfl)
  exact ⟨⟨g, p, n, c, (hb1.set1 _).set0 _, hn, hg, hO.only ho (by omega)⟩, (Only.of_below h1).then ho⟩

theorem wuint_c (r : Nat) (x : WS) (n W : Int) (w : World) (hr : Wr w r x) (hl : x.1.length ≤ 70368744177664) : Calls Try.prog 30 #[rp r, .int .i64 n, .int .i64 W] w (WrR w r (wU x n W)) := by
  have q := qbytes
  obtain ⟨g0, p, m, c, hb, hm, hg, hO⟩ := hr.ex
  have c0 := hb.c0
  have hpc : p = none → c = 0 := by obtain ⟨p', c', he, _, _, _, hp, _⟩ := hO.form; cases he; exact hp
  have HB := Lib.hid (And.intro hb (And.intro hm (And.intro hO.rd hpc)))
  have hlt := hr.lt
  clear hm hO hr hb hpc
  by_cases hk : putOk n W
  · obtain ⟨N, rfl⟩ : ∃ N : Nat, n = N := ⟨n.toNat, by have := hk.2.1; omega⟩
    obtain ⟨V, rfl⟩ : ∃ V : Nat, W = V := ⟨W.toNat, by have := hk.1; omega⟩
    have hy : wU x (N : Int) (V : Int) = (x.1 ++ be N V, x.2) := by unfold wU; rw [if_pos hk]; simp
    have HY := Lib.hid hy
    have HK := Lib.hid hk
    clear hy hk
    go_enter Try.func30, Try.ntmps30
    go_wp2_with (first
      | (go_at_call 67; refine (put_yes _ p m c x.1 N V _ HB.out.2.2.1 HB.out.2.2.2 (by omega) HB.out.2.1 (putOk_cast HK.out).1 (putOk_cast HK.out).2).mono ?_; rintro e w1 ⟨g, k, c1, rfl, l1, z1, z2, y1, y2, o1, b1⟩)
      | (go_at_call 27; refine (wmust_c r true x.2 x.2 _ _ (HB.out.1.below b1) (by simp)).mono ?_; rintro e w2 ⟨rfl, rfl⟩; have f0 := ((HB.out.1.below b1).set1 (.bool x.2)).fr 0; have d0 := ((HB.out.1.below b1).set1 (.bool x.2)).c0))
    go_end0
    rw [HY.out]
    obtain ⟨h1, h2⟩ := wr_put (b := x.2) HB.out.1 b1 (by omega) o1 l1
    exact ⟨rfl, h1, h2⟩
  · have hy : wU x n W = ([], true) := by unfold wU; rw [if_neg hk]
    have HY := Lib.hid hy
    have HK := Lib.hid hk
    clear hy hk
    go_enter Try.func30, Try.ntmps30
    go_wp2_with (first
      | (go_at_call 67; refine (put_no _ n W _ HK.out).mono ?_; rintro e w1 ⟨rfl, b1⟩)
      | (go_at_call 27; refine (wmust_c r _ x.2 true _ _ (HB.out.1.below b1) (by simp)).mono ?_; rintro e w2 ⟨rfl, rfl⟩; have f0 := ((HB.out.1.below b1).set1 (.bool true)).fr 0; have d0 := ((HB.out.1.below b1).set1 (.bool true)).c0))
    go_end0
    rw [HY.out]
    obtain ⟨h1, h2⟩ := wr_put (b := true) (g := r + 1) HB.out.1 b1 (by omega) (Own.nil _ _) (n := 0) (c := 0) rfl
    exact ⟨rfl, h1, h2⟩

set_option maxHeartbeats 4000000 in
set_option maxRecDepth 100000 in
theorem wvec_c (r : Nat) (x : WS) (p2 : Option Addr) (n2 c2 : Nat) (v : List UInt8) (W l u : Int) (w : World) (hr : Wr w r x) (hv : v.length = n2) (hR2 : Rd w (· ≠ r) p2 v) (hp2 : p2 = none → c2 = 0) (hW2 : W ≤ 2) (hl : x.1.length ≤ 70368744177664) :
    Calls Try.prog 31 #[rp r, .slice p2 n2 c2, .int .i64 W, .int .i64 l, .int .i64 u] w (WrR w r (wV x v W l u)) := by
  have q := qbytes
  obtain ⟨g0, p, m, c, hb, hm, hg, hO⟩ := hr.ex
  have hpc : p = none → c = 0 := by obtain ⟨p', c', he, _, _, _, hp, _⟩ := hO.form; cases he; exact hp
  subst hv
  have hlt := hr.lt
  obtain ⟨b1, hb1⟩ : ∃ b, b = decide (l ≤ (v.length : Int)) := ⟨_, rfl⟩
  obtain ⟨b2, hb2⟩ : ∃ b, b = decide ((v.length : Int) ≤ u) := ⟨_, rfl⟩
  obtain ⟨bb, hbb⟩ : ∃ b, b = (x.2 || !(b1 && b2)) := ⟨_, rfl⟩
  have ho1 : Only (· = r) w (w.setCell ⟨r, 1, none⟩ (.bool bb)) := (Only.refl (fun k => k = r) w).setCell _ _ (.inl rfl)
  have hR1 := hR2.only ho1 (fun k hk e => hk e)
  have hO1 := hO.only ho1 (by omega)
  have hB1 := hb.set1 (.bool bb)
  have c1 := hB1.c0
  have hlt1 : r < (w.setCell ⟨r, 1, none⟩ (.bool bb)).heap.size := hB1.lt
  have HB := Lib.hid (And.intro hB1 (And.intro hm (And.intro hO1.rd (And.intro hpc (And.intro hR1 (And.intro hp2 (And.intro hb ho1)))))))
  have HBB := Lib.hid (And.intro hb1 (And.intro hb2 hbb))
  have hmu : ∀ e1 e2 : Bool, e1 = b1 → e2 = b2 → (x.2 || !(e1 && e2)) = bb := by intro e1 e2 h1 h2; rw [h1, h2, hbb]
  have HMU := Lib.hid hmu
  clear hm hO hr hb hR2 hp2 hpc hR1 hO1 hB1 ho1 hmu
  have hfin : ∀ (g : Nat) (b : Bool) (p : Option Addr) (n c : Nat) (l : List UInt8) (w1 : World) (h1 : Below (w.setCell ⟨r, 1, none⟩ (.bool bb)).heap.size (w.setCell ⟨r, 1, none⟩ (.bool bb)) w1) (hg : r < g) (hO : Own w1 g (.slice p n c) l) (hn : l.length = n),
      Wr ((w1.setCell ⟨r, 1, none⟩ (.bool b)).setCell ⟨r, 0, none⟩ (.slice p n c)) r (l, b) ∧ Only (· = r) w ((w1.setCell ⟨r, 1, none⟩ (.bool b)).setCell ⟨r, 0, none⟩ (.slice p n c)) := by
    intro g b p n c l w1 h1 hg hO hn
    obtain ⟨k1, k2⟩ := wr_put (b := b) HB.out.1 h1 hg hO hn
    exact ⟨k1, HB.out.2.2.2.2.2.2.2.then k2⟩
  have HF := Lib.hid hfin
  clear hfin
  by_cases hk : putOk (v.length : Int) W
  · obtain ⟨V, rfl⟩ : ∃ V : Nat, W = V := ⟨W.toNat, by have := hk.1; omega⟩
    have hy : wV x v (V : Int) l u = (x.1 ++ be v.length V ++ v, bb) := by unfold wV; rw [if_pos hk, hbb, hb1, hb2]; simp
    have hvl : v.length ≤ 65536 := by
      have h2 := (putOk_cast hk).2
      have h3 : 256 ^ V ≤ 256 ^ 2 := Nat.pow_le_pow_right (by decide) (by omega)
      omega
    have HY := Lib.hid hy
    have HK := Lib.hid hk
    clear hy hk hbb
    cases b1 <;> cases b2 <;> (
      have hb1' := hb1.symm
      have hb2' := hb2.symm
      clear hb1 hb2
      go_enter Try.func31, Try.ntmps31
      go_wp2_with (first
        | (go_at_call 68; refine (vec_yes _ (· ≠ r) p p2 m c v.length c2 x.1 v V _ HB.out.2.2.1 HB.out.2.2.2.1 HB.out.2.1 HB.out.2.2.2.2.1 HB.out.2.2.2.2.2.1 rfl (by omega) (putOk_cast HK.out).1 (putOk_cast HK.out).2).mono ?_; rintro e w1 ⟨g, k, c1, rfl, l1, z1, z2, y1, y2, o1, b1⟩)
        | (go_at_call 27; have hq := b1; refine (wmust_c r true bb bb _ _ (HB.out.1.below b1) (by simp)).mono ?_; rintro e w2 ⟨rfl, rfl⟩; have f0 := ((HB.out.1.below b1).set1 (.bool bb)).fr 0; have d0 := ((HB.out.1.below b1).set1 (.bool bb)).c0)
        | (go_at_call 27; refine (wmust_c r _ x.2 bb _ _ HB.out.2.2.2.2.2.2.1 (by exact HMU.out _ _ rfl rfl)).mono ?_; rintro e w2 ⟨rfl, rfl⟩))
      go_end0
      rw [HY.out]
      obtain ⟨h1, h2⟩ := HF.out _ bb _ _ _ _ _ b1 (by omega) o1 l1
      exact ⟨rfl, h1, h2⟩)
  · have hy : wV x v W l u = ([], true) := by unfold wV; rw [if_neg hk]
    have HY := Lib.hid hy
    have HK := Lib.hid hk
    clear hy hk hbb
    cases b1 <;> cases b2 <;> (
      have hb1' := hb1.symm
      have hb2' := hb2.symm
      clear hb1 hb2
      go_enter Try.func31, Try.ntmps31
      go_wp2_with (first
        | (go_at_call 68; refine (vec_no _ p2 _ c2 W _ HK.out).mono ?_; rintro e w1 ⟨rfl, b1⟩)
        | (go_at_call 27; have hq := b1; refine (wmust_c r _ bb true _ _ (HB.out.1.below b1) (by simp)).mono ?_; rintro e w2 ⟨rfl, rfl⟩; have f0 := ((HB.out.1.below b1).set1 (.bool true)).fr 0; have d0 := ((HB.out.1.below b1).set1 (.bool true)).c0)
        | (go_at_call 27; refine (wmust_c r _ x.2 bb _ _ HB.out.2.2.2.2.2.2.1 (by exact HMU.out _ _ rfl rfl)).mono ?_; rintro e w2 ⟨rfl, rfl⟩))
      go_end0
      rw [HY.out]
      obtain ⟨h1, h2⟩ := HF.out (r + 1) true none 0 0 [] _ b1 (by omega) (Own.nil _ _) rfl
      exact ⟨rfl, h1, h2⟩)

/-- What end tells. -/
def EndR (w : World) (r : Nat) (x : WS) (e : Ending) (w' : World) : Prop := w = w' ∧ ((x.2 = true ∧ e = .returned (.tuple #[.slice none 0 0, .int .i64 1])) ∨ (x.2 = false ∧ ∃ g p n c, e = .returned (.tuple #[.slice p n c, .int .i64 0]) ∧ x.1.length = n ∧ r < g ∧ Own w g (.slice p n c) x.1))
theorem wend_c (r : Nat) (x : WS) (w : World) (hr : Wr w r x) : Calls Try.prog 35 #[rp r] w (EndR w r x) := by
  obtain ⟨g, p, m, c, hb, hm, hg, hO⟩ := hr.ex
  obtain ⟨l, bad⟩ := x
  have c0 := hb.c0
  have c1 := hb.c1
  have HB := Lib.hid (And.intro hm (And.intro hg hO))
  clear hm hg hO hr hb
  cases bad
  · go_enter Try.func35, Try.ntmps35
    go_wp2
    go_ret2
    exact ⟨rfl, .inr ⟨rfl, g, p, m, c, rfl, HB.out⟩⟩
  · go_enter Try.func35, Try.ntmps35
    go_wp2
    go_ret2
    exact ⟨rfl, .inl ⟨rfl, rfl⟩⟩
end Go.Proofs.Ytegmimnhkohaoaa
/-
  The contracts of package hello's writer's nested, part and share. Conditions: at most 2 to the 46th bytes stand in it.
-/
namespace Go.Proofs.Ytegmimnhkohaoaa
open Go.RowKit Go.Kx
set_option linter.unusedVariables false
set_option linter.unusedSimpArgs false

/-- What a closure does that puts parts into a writer that is new. -/
def Known (k : FuncId) : Prop := ∀ (args : Array Value) (w : World), (callFunc k args).run Try.prog w = .ok (.enter k args) w
def Puts (w : World) (k : FuncId) (cap : Value) (y : WS) : Prop := Known k ∧ ∀ (h : Nat) (w' : World), w.heap.size ≤ h → Below w.heap.size w w' → Wr w' h ([], false) → Calls Try.prog k #[rp h, cap] w' (WrR w' h y)
/-- What nested, part make of it. -/
def wN (x y : WS) (W : Int) : WS := wV (wM x (!y.2)) y.1 W 0 65535
def wP (x : WS) (kind : Int) (there : Bool) (y : WS) : WS := if there then wV (wU (wM x (!y.2)) kind 2) y.1 2 0 65535 else x

set_option maxHeartbeats 4000000 in
set_option maxRecDepth 100000 in
theorem wnested_c (r : Nat) (x y : WS) (W : Int) (k : FuncId) (cap : Value) (w : World) (hr : Wr w r x) (hW : W ≤ 2) (hl : x.1.length ≤ 70368744177664) (hf : Puts w k cap y) :
    Calls Try.prog 32 #[rp r, .int .i64 W, .func (.func k) #[] #[cap]] w (WrR w r (wN x y W)) := by
  have hlt := hr.lt
  have hW0 := Wr.new w
  have hB0 : Below w.heap.size w (w.alloc (.cells #[.slice none 0 0, .bool false] 80)) := (Below.refl _ _).alloc (Nat.le_refl _) _
  have hkn := hf.1
  unfold Known at hkn
  have HF := Lib.hid (And.intro hf.2 (And.intro hW0 (And.intro hB0 hr)))
  clear hf hW0 hB0 hr
  go_enter Try.func32, Try.ntmps32
  go_wp2_with fail
  refine (HF.out.1 w.heap.size _ (Nat.le_refl _) HF.out.2.2.1 HF.out.2.1).mono ?_
  rintro e w1 ⟨rfl, hY1, ho1⟩
  have hB1 : Below w.heap.size w w1 := below_only HF.out.2.2.1 HF.out.2.2.1.size ho1 (by intro k hk e; omega)
  have hX1 := HF.out.2.2.2.below hB1
  have HB1 := Lib.hid hB1
  clear hB1 ho1
  obtain ⟨g, p, n, c, hbx, hn, hg, hO⟩ := hY1.ex
  have d1 := hbx.c1
  have hpc : p = none → c = 0 := by obtain ⟨p', c', he, _, _, _, hp, _⟩ := hO.form; cases he; exact hp
  have HO := Lib.hid (And.intro hO (And.intro hn hpc))
  clear hO hn hpc
  go_wp2_with (first
    | (go_at_call 27; refine (wr_must r (!y.2) x _ hX1).mono ?_; rintro e w2 ⟨rfl, hX2, ho2⟩; have d0 := (hbx.only ho2 (by omega)).c0; have HX2 := Lib.hid (And.intro hX2 ho2); have hrd := (HO.out.1.only ho2 (by omega)).rd; have HRD := Lib.hid (hrd.mono (T := (· ≠ r)) (fun q _ hq => by omega)); clear hrd hX2 ho2)
    | (go_at_call 31; refine (wvec_c r (wM x (!y.2)) _ _ _ y.1 W 0 65535 _ HX2.out.1 HO.out.2.1 HRD.out HO.out.2.2 hW hl).mono ?_; rintro e w3 ⟨rfl, hX3, ho3⟩))
  go_end0
  exact ⟨rfl, hX3, ((Only.of_below HB1.out).then HX2.out.2).then ho3⟩

set_option maxHeartbeats 4000000 in
set_option maxRecDepth 100000 in
theorem wpart_c (r : Nat) (x y : WS) (kind : Int) (there : Bool) (k : FuncId) (cap : Value) (w : World) (hr : Wr w r x) (hl : x.1.length + 4 ≤ 70368744177664) (hf : there = true → Puts w k cap y) :
    Calls Try.prog 69 #[rp r, .int .i64 kind, .bool there, .func (.func k) #[] #[cap]] w (WrR w r (wP x kind there y)) := by
  have hlt := hr.lt
  cases there
  · clear hf
    go_enter Try.func69, Try.ntmps69
    go_wp2
    go_end0
    exact ⟨rfl, hr, Only.refl _ _⟩
  · have hf := hf rfl
    have hW0 := Wr.new w
    have hB0 : Below w.heap.size w (w.alloc (.cells #[.slice none 0 0, .bool false] 80)) := (Below.refl _ _).alloc (Nat.le_refl _) _
    have hkn := hf.1
    unfold Known at hkn
    have hwu := wU_len (wM x (!y.2)) kind 2 (by decide)
    have hwm : (wM x (!y.2)).1.length = x.1.length := rfl
    have hy : wP x kind true y = wV (wU (wM x (!y.2)) kind 2) y.1 2 0 65535 := if_pos rfl
    have HY := Lib.hid hy
    clear hy
    have HF := Lib.hid (And.intro hf.2 (And.intro hW0 (And.intro hB0 hr)))
    have HL := Lib.hid (And.intro hwu hwm)
    clear hf hW0 hB0 hr hwu hwm
    go_enter Try.func69, Try.ntmps69
    go_wp2_with fail
    refine (HF.out.1 w.heap.size _ (Nat.le_refl _) HF.out.2.2.1 HF.out.2.1).mono ?_
    rintro e w1 ⟨rfl, hY1, ho1⟩
    have hB1 : Below w.heap.size w w1 := below_only HF.out.2.2.1 HF.out.2.2.1.size ho1 (by intro k hk e; omega)
    have hX1 := HF.out.2.2.2.below hB1
    have HB1 := Lib.hid hB1
    clear hB1 ho1
    obtain ⟨g, p, n, c, hbx, hn, hg, hO⟩ := hY1.ex
    have d1 := hbx.c1
    have hpc : p = none → c = 0 := by obtain ⟨p', c', he, _, _, _, hp, _⟩ := hO.form; cases he; exact hp
    have HO := Lib.hid (And.intro hO (And.intro hn hpc))
    clear hO hn hpc
    go_wp2_with (first
      | (go_at_call 27; refine (wr_must r (!y.2) x _ hX1).mono ?_; rintro e w2 ⟨rfl, hX2, ho2⟩; have HX2 := Lib.hid (And.intro hX2 ho2); clear hX2 ho2)
      | (go_at_call 30; refine (wuint_c r (wM x (!y.2)) kind 2 _ HX2.out.1 (by have := HL.out.2; omega)).mono ?_; rintro e w3 ⟨rfl, hX3, ho3⟩; have hoo := HX2.out.2.then ho3; have d0 := (hbx.only hoo (by omega)).c0; have HX3 := Lib.hid (And.intro hX3 hoo); have hrd := (HO.out.1.only hoo (by omega)).rd; have HRD := Lib.hid (hrd.mono (T := (· ≠ r)) (fun q _ hq => by omega)); clear hrd hX3 ho3 hoo)
      | (go_at_call 31; refine (wvec_c r _ _ _ _ y.1 2 0 65535 _ HX3.out.1 HO.out.2.1 HRD.out HO.out.2.2 (by decide) (by have := HL.out; omega)).mono ?_; rintro e w4 ⟨rfl, hX4, ho4⟩))
    go_end0
    rw [HY.out]
    exact ⟨rfl, hX4, ((Only.of_below HB1.out).then HX3.out.2).then ho4⟩

def wS (x : WS) (g : Int) (v : List UInt8) : WS := wV (wU x g 2) v 2 1 64
set_option maxHeartbeats 4000000 in
set_option maxRecDepth 100000 in
theorem wshare_c (r : Nat) (x : WS) (g : Int) (p2 : Option Addr) (n2 c2 : Nat) (v : List UInt8) (w : World) (hr : Wr w r x) (hl : x.1.length + 4 ≤ 70368744177664) (hv : v.length = n2) (hR2 : Rd w (· < r) p2 v) (hp2 : p2 = none → c2 = 0) :
    Calls Try.prog 72 #[rp r, .agg #[.int .i64 g, .slice p2 n2 c2]] w (WrR w r (wS x g v)) := by
  have hlt := hr.lt
  have hbx := Box2.new w 31 (.int .i64 g) (.slice p2 n2 c2)
  have hB0 : Below w.heap.size w (w.alloc (.cells #[.int .i64 g, .slice p2 n2 c2] 31)) := (Below.refl _ _).alloc (Nat.le_refl _) _
  have hwu := wU_len x g 2 (by decide)
  have c0 := hbx.c0
  have HF := Lib.hid (And.intro (hr.below hB0) (And.intro (hR2.below hB0) hB0))
  clear hr hR2 hB0
  go_enter Try.func72, Try.ntmps72
  go_wp2_with (first
    | (go_at_call 30; refine (wuint_c r x g 2 _ HF.out.1 (by omega)).mono ?_; rintro e w3 ⟨rfl, hX3, ho3⟩; have d1 := (hbx.only ho3 (by omega)).c1; have HX3 := Lib.hid (And.intro hX3 ho3); have hrd := (HF.out.2.1.only ho3 (by intro k hk e; omega)); have HRD := Lib.hid (hrd.mono (T := (· ≠ r)) (fun q _ hq => by omega)); clear hrd hX3 ho3)
    | (go_at_call 31; refine (wvec_c r _ _ _ _ v 2 1 64 _ HX3.out.1 hv HRD.out hp2 (by decide) (by omega)).mono ?_; rintro e w4 ⟨rfl, hX4, ho4⟩))
  go_end0
  exact ⟨rfl, hX4, ((Only.of_below HF.out.2.2).then HX3.out.2).then ho4⟩
end Go.Proofs.Ytegmimnhkohaoaa
/-
  The contracts of sha.right, math/bits.RotateLeft32 and Mul64, and sha.root. Condition: a count from 1 to 31.
-/
namespace Go.Proofs.Ytegmimnhkohaoaa
open Go.RowKit Go.Kx
set_option linter.unusedVariables false
set_option linter.unusedSimpArgs false
attribute [local go_sem ↓] U_add U_mul U_xor U_or U_and U_not
attribute [local go_sem ↓] U_shl U_shr
attribute [local go_sem ↓] D_add D_mul D_xor D_or D_and D_not D_sub D_lss D_eql D_neq
attribute [local go_sem ↓] D_shl D_shr
attribute [local go_sem ↓] U_guard1 U_guard2 D_guard1 D_guard2

theorem and31 (n : Nat) (h : 1 ≤ n ∧ n ≤ 31) : bits .and .u64 (IntKind.u64.wrap (-(n : Int))) 31 = ((32 - n : Nat) : Int) := by
  obtain ⟨h1, h2⟩ := h
  have : n = 1 ∨ n = 2 ∨ n = 3 ∨ n = 4 ∨ n = 5 ∨ n = 6 ∨ n = 7 ∨ n = 8 ∨ n = 9 ∨ n = 10 ∨ n = 11 ∨ n = 12 ∨ n = 13 ∨ n = 14 ∨ n = 15 ∨ n = 16 ∨ n = 17 ∨ n = 18 ∨ n = 19 ∨ n = 20 ∨ n = 21 ∨ n = 22 ∨ n = 23 ∨ n = 24 ∨ n = 25 ∨ n = 26 ∨ n = 27 ∨ n = 28 ∨ n = 29 ∨ n = 30 ∨ n = 31 := by omega
  rcases this with h | h | h | h | h | h | h | h | h | h | h | h | h | h | h | h | h | h | h | h | h | h | h | h | h | h | h | h | h | h | h <;> subst h <;> rfl
theorem sub32 (n : Nat) (h : 1 ≤ n ∧ n ≤ 31) : IntKind.u64.wrap (32 - ((32 - n : Nat) : Int)) = (n : Int) := by
  obtain ⟨h1, h2⟩ := h
  have e : (32 - ((32 - n : Nat) : Int)) = (n : Int) := by omega
  rw [e]
  unfold IntKind.wrap
  simp [IntKind.bits, IntKind.signed]
  omega

theorem rotl_c (x : UInt32) (n : Nat) (w : World) (h : 1 ≤ n ∧ n ≤ 31) : Calls Try.prog 122 #[U x, .int .i64 (-(n : Int))] w fun e w' => e = .returned (U (rotr x n)) ∧ w = w' := by
  have h1 := and31 n h
  have h2 := sub32 n h
  go_enter Try.func122, Try.ntmps122
  go_wp2
  go_ret
  exact ⟨rfl, rfl⟩

theorem rotr_c (x : UInt32) (n : Nat) (w : World) (h : 1 ≤ n ∧ n ≤ 31) : Calls Try.prog 118 #[U x, .int .i64 (n : Int)] w fun e w' => e = .returned (U (rotr x n)) ∧ w = w' := by
  go_enter Try.func118, Try.ntmps118
  go_wp2_with (go_at_call 122; refine (rotl_c x n _ h).mono ?_; rintro e w' ⟨rfl, rfl⟩)
  go_ret
  exact ⟨rfl, rfl⟩

def mulhi (x y : UInt64) : UInt64 := UInt64.ofNat (x.toNat * y.toNat / 18446744073709551616)
theorem and_mask (x : UInt64) : (x &&& 4294967295).toNat = x.toNat % 4294967296 := by
  rw [UInt64.toNat_and]
  exact Nat.and_two_pow_sub_one_eq_mod x.toNat 32
theorem shr_half (x : UInt64) : (shr64 x 32).toNat = x.toNat / 4294967296 := by
  unfold shr64
  have h := x.toNat_lt
  rw [UInt64.toNat_ofNat', Nat.mod_eq_of_lt]
  omega
theorem mul64_eq (x y : UInt64) : shr64 x 32 * shr64 y 32 + shr64 (shr64 x 32 * (y &&& 4294967295) + shr64 ((x &&& 4294967295) * (y &&& 4294967295)) 32) 32 +
    shr64 ((shr64 x 32 * (y &&& 4294967295) + shr64 ((x &&& 4294967295) * (y &&& 4294967295)) 32 &&& 4294967295) + (x &&& 4294967295) * shr64 y 32) 32 = mulhi x y := by
  have hx : x.toNat < 18446744073709551616 := x.toNat_lt
  have hy : y.toNat < 18446744073709551616 := y.toNat_lt
  obtain ⟨bd, bt, bw, hhi⟩ := Lib.mul64_hi x.toNat y.toNat hx hy
  have ba := Lib.half_mul_le (a := x.toNat / 4294967296) (b := y.toNat / 4294967296) (by omega) (by omega)
  have bb := Lib.half_mul_le (a := x.toNat / 4294967296) (b := y.toNat % 4294967296) (by omega) (by omega)
  have bc := Lib.half_mul_le (a := x.toNat % 4294967296) (b := y.toNat / 4294967296) (by omega) (by omega)
  have e : ∀ n : Nat, 2 ^ 64 = 18446744073709551616 := fun _ => rfl
  apply UInt64.toNat_inj.1
  unfold mulhi
  simp only [UInt64.toNat_add, UInt64.toNat_mul, and_mask, shr_half, UInt64.toNat_ofNat', e 0]
  rw [← hhi]
  generalize x.toNat / 4294967296 * (y.toNat / 4294967296) = a at *
  generalize x.toNat / 4294967296 * (y.toNat % 4294967296) = b at *
  generalize x.toNat % 4294967296 * (y.toNat / 4294967296) = c at *
  generalize x.toNat % 4294967296 * (y.toNat % 4294967296) = d at *
  rw [Nat.mod_eq_of_lt bd, Nat.mod_eq_of_lt (by omega : b < 18446744073709551616), Nat.mod_eq_of_lt bt, Nat.mod_eq_of_lt (by omega : c < 18446744073709551616), Nat.mod_eq_of_lt bw, Nat.mod_eq_of_lt (by omega : a < 18446744073709551616), Nat.mod_eq_of_lt (by omega : a + (b + d / 4294967296) / 4294967296 < 18446744073709551616)]
theorem mul64_c (x y : UInt64) (w : World) : Calls Try.prog 121 #[D x, D y] w fun e w' => e = .returned (.tuple #[D (mulhi x y), D (x * y)]) ∧ w = w' := by
  have k1 : Value.int .u64 4294967295 = D 4294967295 := rfl
  have h := mul64_eq x y
  go_enter Try.func121, Try.ntmps121
  go_wp2
  go_ret2
  exact ⟨rfl, rfl⟩

/-! ### root -/
def rnext (r : UInt64) (b : Nat) : UInt64 := r ||| shl64 1 b
def rhigh (n : UInt64) (cube : Bool) : UInt64 := if cube then mulhi n n * n + mulhi (n * n) n else mulhi n n
def rlow (n : UInt64) (cube : Bool) : UInt64 := if cube then n * n * n else n * n
def rmost (p : UInt64) (cube : Bool) : UInt64 := if cube then shl64 p 32 else p
def rstep (p : UInt64) (cube : Bool) (r : UInt64) (b : Nat) : UInt64 :=
  if rhigh (rnext r b) cube < rmost p cube ∨ (rhigh (rnext r b) cube = rmost p cube ∧ rlow (rnext r b) cube = 0) then rnext r b else r
/-- The root behind so many steps. -/
def rootK (p : UInt64) (cube : Bool) : Nat → UInt64
  | 0 => 0
  | k + 1 => rstep p cube (rootK p cube k) (35 - k)
def rootU (p : UInt64) (cube : Bool) : UInt32 := UInt32.ofNat (rootK p cube 36).toNat

/-- What the build of a slice of one number comes to. -/
noncomputable def hidBs (t : TypeId) (v : Value) (w : World) : Result Next := (do let x ← Instr.buildSlice t 1 #[(0, v)]; pure (Next.value x) : Sem Next).run Try.prog w
noncomputable def bs1 (t e : TypeId) (k : IntKind) (v : Value) (w : World) : Result Next :=
  match v with
  | .int k' n => if k = k' then .ok (.value (.slice (some ⟨w.heap.size, 0, none⟩) 1 1)) (w.alloc (.cells #[v] e)) else hidBs t v w
  | _ => hidBs t v w
theorem bs1_D (t : TypeId) (x : UInt64) (w : World) : bs1 t 49 .u64 (D x) w = .ok (.value (.slice (some ⟨w.heap.size, 0, none⟩) 1 1)) (w.alloc (.cells #[D x] 49)) := rfl
theorem bs1_U (t : TypeId) (x : UInt32) (w : World) : bs1 t 142 .u32 (U x) w = .ok (.value (.slice (some ⟨w.heap.size, 0, none⟩) 1 1)) (w.alloc (.cells #[U x] 142)) := rfl
theorem bsrun_D (k : Int) (w : World) : (Instr.buildSlice 151 1 #[(0, .int .u64 k)]).run Try.prog w = .ok (.slice (some ⟨w.heap.size, 0, none⟩) 1 1) (w.alloc (.cells #[.int .u64 k] 49)) := by kernel_rfl
theorem bsrun_U (k : Int) (w : World) : (Instr.buildSlice 144 1 #[(0, .int .u32 k)]).run Try.prog w = .ok (.slice (some ⟨w.heap.size, 0, none⟩) 1 1) (w.alloc (.cells #[.int .u32 k] 142)) := by kernel_rfl
theorem exec_bsD (dst : Option Tmp) (x : Operand) (ty : TypeId) (pos : String) (after : Array Edge) (gd : Option (Nat × Bool)) (ρ : Operand → Value) (w : World) :
    (execOp ρ ⟨dst, .buildSlice 151 1 #[(0, x)], ty, pos, after, gd⟩).run Try.prog w = bs1 151 49 .u64 (ρ x) w := by
  have h0 : (execOp ρ ⟨dst, .buildSlice 151 1 #[(0, x)], ty, pos, after, gd⟩).run Try.prog w = hidBs 151 (ρ x) w := by kernel_rfl
  rw [h0]
  generalize ρ x = v
  unfold bs1
  split
  · split
    · rename_i h; subst h; unfold hidBs; rw [Sem.run_bind, bsrun_D]; rfl
    · rfl
  · rfl
theorem exec_bsU (dst : Option Tmp) (x : Operand) (ty : TypeId) (pos : String) (after : Array Edge) (gd : Option (Nat × Bool)) (ρ : Operand → Value) (w : World) :
    (execOp ρ ⟨dst, .buildSlice 144 1 #[(0, x)], ty, pos, after, gd⟩).run Try.prog w = bs1 144 142 .u32 (ρ x) w := by
  have h0 : (execOp ρ ⟨dst, .buildSlice 144 1 #[(0, x)], ty, pos, after, gd⟩).run Try.prog w = hidBs 144 (ρ x) w := by kernel_rfl
  rw [h0]
  generalize ρ x = v
  unfold bs1
  split
  · split
    · rename_i h; subst h; unfold hidBs; rw [Sem.run_bind, bsrun_U]; rfl
    · rfl
  · rfl
/-- What a store of one number comes to. -/
noncomputable def hidSt (t : TypeId) (a v : Value) (w : World) : Result Next := (do Instr.storeAt t a v; pure Next.skip : Sem Next).run Try.prog w
noncomputable def st1 (t : TypeId) (a v : Value) (w : World) : Result Next :=
  match a with
  | .pointer (some ad) => if v.oneCell' = true then (stored Try.prog w ad v .plain).andThen (fun _ w' => .ok .skip w') else hidSt t a v w
  | _ => hidSt t a v w
theorem st1_D (t : TypeId) (ad : Addr) (x : UInt64) (w : World) : st1 t (.pointer (some ad)) (D x) w = (stored Try.prog w ad (D x) .plain).andThen (fun _ w' => .ok .skip w') := rfl
theorem st1_i (t : TypeId) (ad : Addr) (k : IntKind) (n : Int) (w : World) : st1 t (.pointer (some ad)) (.int k n) w = (stored Try.prog w ad (.int k n) .plain).andThen (fun _ w' => .ok .skip w') := rfl
theorem st1_U (t : TypeId) (ad : Addr) (x : UInt32) (w : World) : st1 t (.pointer (some ad)) (U x) w = (stored Try.prog w ad (U x) .plain).andThen (fun _ w' => .ok .skip w') := rfl
theorem cells_one {v : Value} (h : v.oneCell' = true) : v.cells = #[v] := by cases v <;> first | rfl | (simp [Value.oneCell'] at h)
theorem hidSt_one (t : TypeId) (i : TypeInfo) (hi : Try.prog.info? t = some i) (hs : i.size = 1) (ad : Addr) (v : Value) (h : v.oneCell' = true) (w : World) :
    hidSt t (.pointer (some ad)) v w = (stored Try.prog w ad v .plain).andThen (fun _ w' => .ok .skip w') := by
  have h1 : (Instr.storeAt t (.pointer (some ad)) v).run Try.prog w = stored Try.prog w ad v .plain := by
    have ha : ad.add 0 = ad := by simp [Addr.add]
    have h2 := run_store Try.prog w ad v .plain h
    simp only [Instr.storeAt, Instr.sureAddr, Sem.run_bind, Sem.run_pure, Result.andThen_ok]
    simp [storeVar, sizeOf, typeInfo, hi, hs, cells_one h, storeCells, ha]
    rw [h2]
    rfl
  unfold hidSt
  rw [Sem.run_bind, h1]
  rfl
theorem exec_st (t : TypeId) (hi : (Try.prog.info? t).map (fun i => i.size) = some 1) (dst : Option Tmp) (x y : Operand) (ty : TypeId) (pos : String) (after : Array Edge) (gd : Option (Nat × Bool)) (ρ : Operand → Value) (w : World) :
    (execOp ρ ⟨dst, .store t x y, ty, pos, after, gd⟩).run Try.prog w = st1 t (ρ x) (ρ y) w := by
  have h0 : (execOp ρ ⟨dst, .store t x y, ty, pos, after, gd⟩).run Try.prog w = hidSt t (ρ x) (ρ y) w := rfl
  rw [h0]
  generalize ρ x = a
  generalize ρ y = v
  unfold st1
  obtain ⟨i, hi1, hi2⟩ : ∃ i, Try.prog.info? t = some i ∧ i.size = 1 := by
    simpa using hi
  split
  · split
    · rename_i h; exact hidSt_one t i hi1 hi2 _ _ h w
    · rfl
  · rfl
theorem exec_stD (dst : Option Tmp) (x y : Operand) (ty : TypeId) (pos : String) (after : Array Edge) (gd : Option (Nat × Bool)) (ρ : Operand → Value) (w : World) :
    (execOp ρ ⟨dst, .store 49 x y, ty, pos, after, gd⟩).run Try.prog w = st1 49 (ρ x) (ρ y) w := exec_st _ (by kernel_rfl) _ _ _ _ _ _ _ _ _
theorem exec_stU (dst : Option Tmp) (x y : Operand) (ty : TypeId) (pos : String) (after : Array Edge) (gd : Option (Nat × Bool)) (ρ : Operand → Value) (w : World) :
    (execOp ρ ⟨dst, .store 142 x y, ty, pos, after, gd⟩).run Try.prog w = st1 142 (ρ x) (ρ y) w := exec_st _ (by kernel_rfl) _ _ _ _ _ _ _ _ _
theorem cvD (x : UInt64) (w : World) : (convert 49 142 (D x)).run Try.prog w = .ok (U (UInt32.ofNat x.toNat)) w := by
  have h : IntKind.u32.wrap (x.toNat : Int) = ((UInt32.ofNat x.toNat).toNat : Int) := by rw [wrap_u32, UInt32.toNat_ofNat']
  have hk : Try.prog.intKind 142 = .u32 := by kernel_rfl
  have h2 := run_convert_int (P := Try.prog) (w := w) 49 142 .u64 (x.toNat : Int) (by rw [Try.underlying49]; rfl) (by rw [hk]; exact Try.underlying142)
  rw [hk, h] at h2
  exact h2

theorem root_c (p : UInt64) (cube : Bool) (w : World) : Calls Try.prog 116 #[D p, .bool cube] w fun e w' => e = .returned (U (rootU p cube)) ∧ w = w' := by
  have k1 : Value.int .u64 1 = D 1 := rfl
  have k0 : Value.int .u64 0 = D 0 := rfl
  have cv := cvD
  go_enter Try.func116, Try.ntmps116
  go_wp2
  go_loop [5, 6] (fun v5 v6 => ∃ k : Nat, k ≤ 36 ∧ v6 = .int .i64 (35 - (k : Int)) ∧ v5 = D (rootK p cube k)) (fun _ v6 => (intOf v6 + 1).toNat)
  case atStart => exact ⟨0, by omega, rfl, rfl⟩
  case round =>
    obtain ⟨k, hk, rfl, rfl⟩ := hrel
    by_cases hlt : k < 36
    · obtain ⟨b, hb⟩ : ∃ b : Nat, b = 35 - k := ⟨_, rfl⟩
      have e1 : (35 - (k : Int)) = (b : Int) := by omega
      have hs : rootK p cube (k + 1) = rstep p cube (rootK p cube k) b := by rw [hb]; rfl
      have HS := Lib.hid (And.intro hs hb)
      clear hs hb
      rw [e1]
      clear e1
      have hb0 : (0 : Int) ≤ (b : Int) := by omega
      have hb1 : (b : Int) ≤ 35 := by have := HS.out.2; omega
      obtain ⟨R, hR⟩ : ∃ R, R = rootK p cube k := ⟨_, rfl⟩
      rw [← hR] at HS ⊢
      obtain ⟨N, hN'⟩ : ∃ N, N = R ||| shl64 1 b := ⟨_, rfl⟩
      have hN : rnext R b = N := hN'.symm
      have hN2 := hN'.symm
      clear hN' hR
      cases cube
      ·
        by_cases c1 : rhigh N false < rmost p false
        · have hr : rstep p false R b = N := by unfold rstep; rw [hN, if_pos (.inl c1)]
          have HR := Lib.hid hr
          clear hr
          simp only [rhigh, rlow, rmost, if_true, if_false, Bool.false_eq_true] at c1
          go_wp2_with (go_at_call 121; refine (mul64_c _ _ _).mono ?_; rintro e w' ⟨rfl, rfl⟩)
          exact ⟨⟨k + 1, by omega, by congr 1; have := HS.out.2; omega, by rw [HS.out.1, HR.out]⟩, by simp [intOf]⟩
        · by_cases c2 : rhigh N false = rmost p false
          · by_cases c3 : rlow N false = 0
            · have hr : rstep p false R b = N := by unfold rstep; rw [hN, if_pos (.inr ⟨c2, c3⟩)]
              have HR := Lib.hid hr
              clear hr
              simp only [rhigh, rlow, rmost, if_true, if_false, Bool.false_eq_true] at c1 c2 c3
              go_wp2_with (go_at_call 121; refine (mul64_c _ _ _).mono ?_; rintro e w' ⟨rfl, rfl⟩)
              exact ⟨⟨k + 1, by omega, by congr 1; have := HS.out.2; omega, by rw [HS.out.1, HR.out]⟩, by simp [intOf]⟩
            · have hr : rstep p false R b = R := by unfold rstep; rw [hN, if_neg (fun h => h.elim c1 (fun h => c3 h.2))]
              have HR := Lib.hid hr
              clear hr
              simp only [rhigh, rlow, rmost, if_true, if_false, Bool.false_eq_true] at c1 c2 c3
              go_wp2_with (go_at_call 121; refine (mul64_c _ _ _).mono ?_; rintro e w' ⟨rfl, rfl⟩)
              exact ⟨⟨k + 1, by omega, by congr 1; have := HS.out.2; omega, by rw [HS.out.1, HR.out]⟩, by simp [intOf]⟩
          · have hr : rstep p false R b = R := by unfold rstep; rw [hN, if_neg (fun h => h.elim c1 (fun h => c2 h.1))]
            have HR := Lib.hid hr
            clear hr
            simp only [rhigh, rlow, rmost, if_true, if_false, Bool.false_eq_true] at c1 c2
            go_wp2_with (go_at_call 121; refine (mul64_c _ _ _).mono ?_; rintro e w' ⟨rfl, rfl⟩)
            exact ⟨⟨k + 1, by omega, by congr 1; have := HS.out.2; omega, by rw [HS.out.1, HR.out]⟩, by simp [intOf]⟩
      ·
        by_cases c1 : rhigh N true < rmost p true
        · have hr : rstep p true R b = N := by unfold rstep; rw [hN, if_pos (.inl c1)]
          have HR := Lib.hid hr
          clear hr
          simp only [rhigh, rlow, rmost, if_true, if_false, Bool.false_eq_true] at c1
          go_wp2_with (go_at_call 121; refine (mul64_c _ _ _).mono ?_; rintro e w' ⟨rfl, rfl⟩)
          exact ⟨⟨k + 1, by omega, by congr 1; have := HS.out.2; omega, by rw [HS.out.1, HR.out]⟩, by simp [intOf]⟩
        · by_cases c2 : rhigh N true = rmost p true
          · by_cases c3 : rlow N true = 0
            · have hr : rstep p true R b = N := by unfold rstep; rw [hN, if_pos (.inr ⟨c2, c3⟩)]
              have HR := Lib.hid hr
              clear hr
              simp only [rhigh, rlow, rmost, if_true, if_false, Bool.false_eq_true] at c1 c2 c3
              go_wp2_with (go_at_call 121; refine (mul64_c _ _ _).mono ?_; rintro e w' ⟨rfl, rfl⟩)
              exact ⟨⟨k + 1, by omega, by congr 1; have := HS.out.2; omega, by rw [HS.out.1, HR.out]⟩, by simp [intOf]⟩
            · have hr : rstep p true R b = R := by unfold rstep; rw [hN, if_neg (fun h => h.elim c1 (fun h => c3 h.2))]
              have HR := Lib.hid hr
              clear hr
              simp only [rhigh, rlow, rmost, if_true, if_false, Bool.false_eq_true] at c1 c2 c3
              go_wp2_with (go_at_call 121; refine (mul64_c _ _ _).mono ?_; rintro e w' ⟨rfl, rfl⟩)
              exact ⟨⟨k + 1, by omega, by congr 1; have := HS.out.2; omega, by rw [HS.out.1, HR.out]⟩, by simp [intOf]⟩
          · have hr : rstep p true R b = R := by unfold rstep; rw [hN, if_neg (fun h => h.elim c1 (fun h => c2 h.1))]
            have HR := Lib.hid hr
            clear hr
            simp only [rhigh, rlow, rmost, if_true, if_false, Bool.false_eq_true] at c1 c2
            go_wp2_with (go_at_call 121; refine (mul64_c _ _ _).mono ?_; rintro e w' ⟨rfl, rfl⟩)
            exact ⟨⟨k + 1, by omega, by congr 1; have := HS.out.2; omega, by rw [HS.out.1, HR.out]⟩, by simp [intOf]⟩
    · have hk6 : k = 36 := by omega
      subst hk6
      go_wp2
      go_ret
      exact ⟨rfl, rfl⟩
end Go.Proofs.Ytegmimnhkohaoaa
/-
  The contracts of sha.primes and sha.roots, and of slices.IndexFunc and ContainsFunc as primes calls them. Condition: at most 64 of them.
-/
namespace Go.Proofs.Ytegmimnhkohaoaa
open Go.RowKit Go.Kx
set_option linter.unusedVariables false
set_option linter.unusedSimpArgs false
attribute [local go_sem ↓] U_add U_mul U_xor U_or U_and U_not U_shl U_shr U_guard1 U_guard2
attribute [local go_sem ↓] D_add D_mul D_xor D_or D_and D_not D_sub D_lss D_eql D_neq D_shl D_shr D_guard1 D_guard2 D_store U_store exec_bsD exec_bsU
attribute [local go_sem ↓] exec_stD exec_stU
attribute [local go_sem] bs1_D bs1_U st1_D st1_U st1_i

/-- A variable of one cell. -/
def Var (w : World) (b t : Nat) (v : Value) : Prop := w.heap[b]? = some (.cells #[v] t (0, 0))
theorem Var.c {w : World} {b t : Nat} {v : Value} (h : Var w b t v) : w.cell? ⟨b, 0, none⟩ = some v := by unfold Var at h; simp [World.cell?, h]
theorem Var.fr {w : World} {b t : Nat} {v : Value} (h : Var w b t v) : w.frozen? ⟨b, 0, none⟩ = false := by unfold Var at h; simp [World.frozen?, h]
theorem Var.lt {w : World} {b t : Nat} {v : Value} (h : Var w b t v) : b < w.heap.size := (Array.getElem?_eq_some_iff.1 h).1
theorem Var.only {w w' : World} {q : Nat → Prop} {b t : Nat} {v : Value} (h : Var w b t v) (ho : Only q w w') (hd : ¬ q b) : Var w' b t v := (ho.block b h.lt hd).trans h
theorem Var.below {w w' : World} {b t : Nat} {v : Value} (h : Var w b t v) (ho : Below w.heap.size w w') : Var w' b t v := (ho.block b h.lt).trans h
theorem Var.new (w : World) (t : Nat) (v : Value) : Var (w.alloc (.cells #[v] t)) w.heap.size t v := heap_alloc_new w _

theorem divides_c (q p : UInt64) (B : Nat) (w : World) (hq : q ≠ 0) (hc : w.cell? ⟨B, 0, none⟩ = some (D p)) :
    Calls Try.prog 120 #[D q, .pointer (some ⟨B, 0, none⟩)] w fun e w' => e = .returned (.bool (decide (p % q = 0))) ∧ w = w' := by
  have hr := fun (w : World) => D_rem (P := Try.prog) (w := w) (t := 49) p q hq
  have k0 : Value.int .u64 0 = D 0 := rfl
  go_enter Try.func120, Try.ntmps120
  go_wp2
  go_ret
  exact ⟨rfl, rfl⟩

/-- Numbers that lie in a row. -/
def NumsAt (w : World) (p : Option Addr) (qs : List UInt64) : Prop := ∀ i (h : i < qs.length), ∃ g o, p = some ⟨g, o, none⟩ ∧ w.cell? ⟨g, o + i, none⟩ = some (D qs[i])

def IdxR (w : World) (qs : List UInt64) (p : UInt64) (e : Ending) (w' : World) : Prop := ∃ r : Int, e = .returned (.int .i64 r) ∧ decide (0 ≤ r) = qs.any (fun q => decide (p % q = 0)) ∧ w = w'

theorem index_c (a : Option Addr) (n c : Nat) (qs : List UInt64) (p : UInt64) (B : Nat) (w : World) (hN : NumsAt w a qs) (hl : qs.length = n) (hm : n ≤ 1000) (h0 : ∀ q ∈ qs, q ≠ 0) (hc : w.cell? ⟨B, 0, none⟩ = some (D p)) :
    Calls Try.prog 123 #[.slice a n c, .func (.func 120) #[] #[.pointer (some ⟨B, 0, none⟩)]] w (IdxR w qs p) := by
  subst hl
  go_enter Try.func123, Try.ntmps123
  go_wp2
  go_loop [8] (fun v8 => ∃ i : Nat, v8 = .int .i64 (i : Int) ∧ i ≤ qs.length ∧ (qs.take i).any (fun q => decide (p % q = 0)) = false) (fun v8 => qs.length - (intOf v8).toNat)
  case atStart => exact ⟨0, rfl, by omega, rfl⟩
  case round =>
    obtain ⟨i, rfl, hi, hany⟩ := hrel
    have HA := Lib.hid hany
    clear hany
    by_cases hlt : i < qs.length
    · obtain ⟨g, o, rfl, hcell⟩ := hN i hlt
      have hlI : (i : Int) < (qs.length : Int) := by omega
      have hq0 : qs[i] ≠ 0 := h0 _ (List.getElem_mem hlt)
      have hts : qs.take (i + 1) = qs.take i ++ [qs[i]] := List.take_succ_eq_append_getElem hlt
      have HT := Lib.hid hts
      obtain ⟨q, hq⟩ : ∃ q, q = qs[i] := ⟨_, rfl⟩
      rw [← hq] at hcell hq0
      have HQ := Lib.hid hq
      clear hts hq
      have HD := Lib.hid h0
      clear h0 hN
      by_cases hd : p % q = 0
      · have hb : decide (p % q = 0) = true := decide_eq_true hd
        go_wp2_with (go_at_call 120; refine (divides_c q p B _ hq0 hc).mono ?_; rintro e w' ⟨rfl, rfl⟩)
        go_ret
        refine ⟨(i : Int), rfl, ?_, rfl⟩
        have hmem : q ∈ qs := by rw [HQ.out]; exact List.getElem_mem hlt
        rw [decide_eq_true (by omega : (0 : Int) ≤ (i : Int))]
        exact (List.any_eq_true.2 ⟨q, hmem, hb⟩).symm
      · have hb : decide (p % q = 0) = false := decide_eq_false hd
        go_wp2_with (go_at_call 120; refine (divides_c q p B _ hq0 hc).mono ?_; rintro e w' ⟨rfl, rfl⟩)
        exact ⟨⟨i + 1, by simp, by omega, by rw [HT.out, List.any_append, HA.out, ← HQ.out]; simp [hd]⟩, by simp [intOf]; omega⟩
    · have hlI : ¬ (i : Int) < (qs.length : Int) := by omega
      go_wp2
      go_ret
      have : qs.take i = qs := List.take_of_length_le (by omega)
      exact ⟨-1, rfl, by rw [← this, HA.out]; rfl, rfl⟩

theorem contains_c (a : Option Addr) (n c : Nat) (qs : List UInt64) (p : UInt64) (B : Nat) (w : World) (hN : NumsAt w a qs) (hl : qs.length = n) (hm : n ≤ 1000) (h0 : ∀ q ∈ qs, q ≠ 0) (hc : w.cell? ⟨B, 0, none⟩ = some (D p)) :
    Calls Try.prog 119 #[.slice a n c, .func (.func 120) #[] #[.pointer (some ⟨B, 0, none⟩)]] w (fun e w' => e = .returned (.bool (qs.any (fun q => decide (p % q = 0)))) ∧ w = w') := by
  obtain ⟨bb, hbb⟩ : ∃ bb, bb = qs.any (fun q => decide (p % q = 0)) := ⟨_, rfl⟩
  rw [← hbb]
  have HB := Lib.hid hbb
  clear hbb
  have H := Lib.hid (index_c a n c qs p B w hN hl hm h0 hc)
  clear hN hl hm h0 hc
  go_enter Try.func119, Try.ntmps119
  go_wp2_with (go_at_call 123; refine H.out.mono ?_; rintro e w' ⟨r, rfl, hr, rfl⟩; rw [← HB.out] at hr)
  go_ret
  exact ⟨by first | rfl | (rw [← hr]), rfl⟩

/-! ### primes -/
/-- The primes from 2 on, of so many numbers. -/
def pr : Nat → List UInt64
  | 0 => []
  | k + 1 => if (pr k).any (fun q => decide (UInt64.ofNat (k + 2) % q = 0)) then pr k else pr k ++ [UInt64.ofNat (k + 2)]
theorem pr_succ (k : Nat) : pr (k + 1) = if (pr k).any (fun q => decide (UInt64.ofNat (k + 2) % q = 0)) then pr k else pr k ++ [UInt64.ofNat (k + 2)] := rfl
theorem pr_prefix (k j : Nat) : ∃ t, pr (k + j) = pr k ++ t := by
  induction j with
  | zero => exact ⟨[], by simp⟩
  | succ j ih =>
    obtain ⟨t, ht⟩ := ih
    rw [show k + (j + 1) = (k + j) + 1 by omega, pr_succ]
    split
    · exact ⟨t, ht⟩
    · exact ⟨t ++ [_], by rw [ht, List.append_assoc]⟩
theorem pr_len : (pr 310).length = 64 := by decide +kernel
/-- The first so many. -/
def primesL (n : Nat) : List UInt64 := (pr 310).take n
theorem pr_take {k n : Nat} (hk : k ≤ 310) (h : (pr k).length = n) : pr k = primesL n := by
  obtain ⟨t, ht⟩ := pr_prefix k (310 - k)
  rw [show k + (310 - k) = 310 by omega] at ht
  unfold primesL
  rw [ht, ← h, List.take_left']
  rfl
theorem pr_bound {k n : Nat} (hn : n ≤ 64) (h : (pr k).length < n) : k < 310 := by
  apply Nat.lt_of_not_le
  intro hk
  obtain ⟨t, ht⟩ := pr_prefix 310 (k - 310)
  rw [show 310 + (k - 310) = k by omega] at ht
  rw [ht, List.length_append, pr_len] at h
  omega
theorem pr_ne (k : Nat) (hk : k ≤ 1000) : ∀ q ∈ pr k, q ≠ 0 := by
  induction k with
  | zero => intro q hq; cases hq
  | succ k ih =>
    intro q hq
    rw [pr_succ] at hq
    split at hq
    · exact ih (by omega) q hq
    · rw [List.mem_append, List.mem_singleton] at hq
      rcases hq with hq | rfl
      · exact ih (by omega) q hq
      · intro h
        have := congrArg UInt64.toNat h
        rw [UInt64.toNat_ofNat', Nat.mod_eq_of_lt (by omega)] at this
        simp at this

theorem Try.infoD : (Try.prog.info? 49).map (fun i => (i.zero, i.size, i.bytes)) = some (some (.int .u64 0), 1, 8) := by kernel_rfl
theorem Try.infoU : (Try.prog.info? 142).map (fun i => (i.zero, i.size, i.bytes)) = some (some (.int .u32 0), 1, 4) := by kernel_rfl

/-- A row of numbers of the call's own. -/
def RowD (w : World) (g : Nat) (v : Value) (l : List UInt64) : Prop := Row w 49 1 g v l.length (l.map D)
def RowU (w : World) (g : Nat) (v : Value) (l : List UInt32) : Prop := Row w 142 1 g v l.length (l.map U)
theorem RowD.nums {w : World} {g : Nat} {p : Option Addr} {n c : Nat} {l : List UInt64} (h : RowD w g (.slice p n c) l) : l.length = n ∧ NumsAt w p l ∧ (0 < n → g < w.heap.size) := by
  obtain ⟨p', c', hv, h1, h2⟩ := Row.form h
  cases hv
  refine ⟨rfl, fun i hi => ?_, fun h => (h1 h).2⟩
  obtain ⟨rfl, _⟩ := h1 (by omega)
  exact ⟨g, 0, rfl, by rw [Nat.zero_add]; exact h2 i (D l[i]) (by simp [hi])⟩

def PrRel (w : World) (n : Nat) (v3 v4 : Value) (wr : World) : Prop := ∃ k g b, v4 = .pointer (some ⟨b, 0, none⟩) ∧ (pr k).length ≤ n ∧ k ≤ 310 ∧ Var wr b 49 (D (UInt64.ofNat (k + 2))) ∧ RowD wr g v3 (pr k) ∧ g ≠ b ∧ w.heap.size ≤ g ∧ w.heap.size ≤ b ∧ Below w.heap.size w wr
def PrMeas (v3 v4 : Value) (wr : World) : Nat := match v4 with
  | .pointer (some ⟨b, 0, none⟩) => match wr.cell? ⟨b, 0, none⟩ with
    | some (.int .u64 n) => 400 - n.toNat
    | _ => 0
  | _ => 0
theorem PrMeas_at {v3 : Value} {b k : Nat} {wr : World} (hk : k ≤ 310) (h : Var wr b 49 (D (UInt64.ofNat (k + 2)))) : PrMeas v3 (.pointer (some ⟨b, 0, none⟩)) wr = 398 - k := by
  have e : UInt64.toNat (UInt64.ofNat (k + 2)) = k + 2 := by rw [UInt64.toNat_ofNat', Nat.mod_eq_of_lt (by omega)]
  unfold PrMeas
  simp only [h.c, D, e]
  omega

def PrR (w : World) (n : Nat) (e : Ending) (w' : World) : Prop := ∃ g p c, e = .returned (.slice p n c) ∧ RowD w' g (.slice p n c) (primesL n) ∧ w.heap.size ≤ g ∧ Below w.heap.size w w'

set_option maxHeartbeats 2000000 in
theorem primes_c (n : Nat) (w : World) (hn : 1 ≤ n ∧ n ≤ 64) : Calls Try.prog 115 #[.int .i64 (n : Int)] w (PrR w n) := by
  have k1 : Value.int .u64 1 = D 1 := rfl
  go_enter Try.func115, Try.ntmps115
  go_wp2
  go_loopw [3, 4] (fun v3 v4 wr => PrRel w n v3 v4 wr) (fun v3 v4 wr => PrMeas v3 v4 wr)
  case atStart =>
    exact ⟨0, w.heap.size + 1, w.heap.size, rfl, by simp [pr], by omega, Var.new _ _ _, Row.nil _ _ _ _, by omega, by omega, by omega, (Below.refl _ _).alloc (Nat.le_refl _) _⟩
  case round =>
    obtain ⟨k, g, b, rfl, hl, hk, hV, hO, hgb, hg, hb, hB⟩ := hrel
    have hM := PrMeas_at (v3 := u3) hk hV
    obtain ⟨p3, c3, rfl, hf1, hf2⟩ := Row.form hO
    obtain ⟨hN1, hN2, hN3⟩ := hO.nums
    obtain ⟨P, hP⟩ : ∃ P, P = UInt64.ofNat (k + 2) := ⟨_, rfl⟩
    have hP1 : UInt64.ofNat (k + 1 + 2) = P + 1 := by
      apply UInt64.toNat_inj.1
      rw [hP, UInt64.toNat_add, UInt64.toNat_ofNat', UInt64.toNat_ofNat']
      show _ = ((k + 2) % 2 ^ 64 + 1) % 2 ^ 64
      omega
    rw [← hP] at hV
    obtain ⟨L, hL⟩ : ∃ L, L = (pr k).length := ⟨_, rfl⟩
    rw [← hL] at hl hM hO hN3 hf1 ⊢
    have hN1' := hN1
    have HP := Lib.hid (And.intro hP (And.intro hP1 hL))
    have hR : Row wr 49 1 g (.slice p3 L c3) L ((pr k).map D) := by have h := hO; unfold RowD at h; rw [← hL] at h; exact h
    have HR := Lib.hid hR
    have HH := Lib.hid (And.intro hV (And.intro hO (And.intro hB (And.intro hM hN2))))
    have cb := hV.c
    have hbl := hV.lt
    have hne := pr_ne k (by omega)
    have HNE := Lib.hid hne
    have hsz := hB.size
    have hL1 : L ≤ 1000 := by omega
    clear hP hP1 hV hO hB hM hf1 hf2 hN2 hne hN1 hL hR
    by_cases hlt : L < n
    · have hlI : (L : Int) < (n : Int) := by omega
      have hk2 : k < 310 := pr_bound hn.2 (by rw [← HP.out.2.2]; exact hlt)
      have cont := fun (w' : World) (hc : w'.cell? ⟨b, 0, none⟩ = some (D P)) (hN : NumsAt w' p3 (pr k)) => contains_c p3 L c3 (pr k) P b w' hN HP.out.2.2.symm hL1 HNE.out hc
      have CT := Lib.hid cont
      clear cont
      obtain ⟨bb, hbb⟩ : ∃ bb, bb = (pr k).any (fun q => decide (P % q = 0)) := ⟨_, rfl⟩
      rw [← hbb] at CT
      have HBB := Lib.hid hbb
      clear hbb
      cases bb
      · go_wp2_with (first
          | (go_at_call 119; refine (CT.out _ cb HH.out.2.2.2.2).mono ?_; rintro e w' ⟨rfl, rfl⟩)
          | (at_builtin; refine wpList_append_row rfl _ _ 151 rfl 49 (.int .u64 0) 1 8 Try.underlying151 Try.infoD rfl (by decide) g (.slice p3 L c3) L ((pr k).map D) rfl (Row.only HR.out ((Only.refl (fun _ => False) wr).alloc _) (fun h => h)) ⟨wr.heap.size, 0, none⟩ 1 1 [D P] rfl rfl (cell_one wr _ _) (by simp [Value.oneCell', D]) (by unfold maxLen; omega) (by omega) (wr.heap.size + 1) (by simp) ?_; intro g' v' w1 hrow hg' hO1; have hV1 : Var w1 b 49 (D P) := (HH.out.1.below ((Below.refl _ _).alloc (Nat.le_refl _) (.cells #[D P] 49))).only hO1 (by omega); have cb1 := hV1.c))
        have hs1 := hO1.size
        simp only [World.size_alloc] at hs1
        have hpr : pr (k + 1) = pr k ++ [P] := by rw [pr_succ, ← HP.out.1, ← HBB.out]; rfl
        obtain ⟨q, c', hv', z1, z2⟩ := Row.form hrow
        have hgl := (z1 (by omega)).2
        have hB1 : Below w.heap.size w w1 := below_only (HH.out.2.2.1.alloc hsz _) (by simp; omega) hO1 (by intro x hx e; omega)
        have hVn := Var.new w1 49 (D (UInt64.ofNat (k + 1 + 2)))
        have hm1 := PrMeas_at (v3 := v') (by omega) hVn
        rw [HP.out.2.1] at hVn hm1
        refine ⟨⟨k + 1, g', w1.heap.size, rfl, by rw [hpr, List.length_append, ← HP.out.2.2]; exact hlt, by omega, by rw [HP.out.2.1]; exact hVn, ?_, by omega, by omega, by omega, hB1.alloc hB1.size _⟩, by rw [hm1, HH.out.2.2.2.1]; omega⟩
        unfold RowD
        rw [hpr, List.length_append, List.map_append, ← HP.out.2.2]
        exact Row.only hrow ((Only.refl (fun _ => False) w1).alloc _) (fun h => h)
      · go_wp2_with (go_at_call 119; refine (CT.out _ cb HH.out.2.2.2.2).mono ?_; rintro e w' ⟨rfl, rfl⟩)
        have hpr : pr (k + 1) = pr k := by rw [pr_succ, ← HP.out.1, ← HBB.out]; rfl
        have hVn := Var.new wr 49 (D (UInt64.ofNat (k + 1 + 2)))
        have hm1 := PrMeas_at (v3 := .slice p3 L c3) (by omega) hVn
        rw [HP.out.2.1] at hVn hm1
        by_cases hL0 : 0 < L
        · refine ⟨⟨k + 1, g, wr.heap.size, rfl, by rw [hpr, ← HP.out.2.2]; exact hl, by omega, by rw [HP.out.2.1]; exact hVn, ?_, by have := hN3 hL0; omega, by omega, by omega, HH.out.2.2.1.alloc hsz _⟩, by rw [hm1, HH.out.2.2.2.1]; omega⟩
          rw [hpr]
          exact Row.only HH.out.2.1 ((Only.refl (fun _ => False) wr).alloc _) (fun h => h)
        · exfalso
          have h0 : pr k = [] := List.eq_nil_of_length_eq_zero (by rw [← HP.out.2.2]; omega)
          have := HBB.out
          rw [h0] at this
          cases this
    · have hlI : ¬ (L : Int) < (n : Int) := by omega
      obtain rfl : L = n := by omega
      go_wp2
      go_ret
      exact ⟨g, p3, c3, rfl, by rw [← pr_take hk HP.out.2.2.symm]; exact HH.out.2.1, hg, HH.out.2.2.1⟩

/-! ### roots -/
def rootsL (n : Nat) (cube : Bool) : List UInt32 := (primesL n).map fun p => rootU p cube
theorem primesL_len {n : Nat} (h : n ≤ 64) : (primesL n).length = n := by unfold primesL; rw [List.length_take, pr_len]; omega
theorem NumsAt.below {w w' : World} {p : Option Addr} {qs : List UInt64} (h : NumsAt w p qs) (hb : Below w.heap.size w w') : NumsAt w' p qs := by
  intro i hi
  obtain ⟨g, o, h1, h2⟩ := h i hi
  exact ⟨g, o, h1, (hb.cell (p := ⟨g, o + i, none⟩) (World.block_lt_of_cell? _ _ h2)).trans h2⟩
def RoRel (w1 : World) (n : Nat) (cube : Bool) (v5 v11 : Value) (wr : World) : Prop := ∃ (i g : Nat), v11 = .int .i64 (i : Int) ∧ i ≤ n ∧ Row wr 142 1 g v5 i (((rootsL n cube).take i).map U) ∧ w1.heap.size ≤ g ∧ Below w1.heap.size w1 wr
def RoR (w : World) (n : Nat) (cube : Bool) (e : Ending) (w' : World) : Prop := ∃ g c, e = .returned (.slice (some ⟨g, 0, none⟩) n c) ∧ Row w' 142 1 g (.slice (some ⟨g, 0, none⟩) n c) n ((rootsL n cube).map U) ∧ w.heap.size ≤ g ∧ g < w'.heap.size ∧ Below w.heap.size w w'

set_option maxHeartbeats 2000000 in
theorem roots_c (n : Nat) (cube : Bool) (w : World) (hn : 1 ≤ n ∧ n ≤ 64) : Calls Try.prog 106 #[.int .i64 (n : Int), .bool cube] w (RoR w n cube) := by
  have hpl := primesL_len hn.2
  have HPL := Lib.hid hpl
  have HRL := Lib.hid (show (rootsL n cube).length = n by unfold rootsL; rw [List.length_map]; exact hpl)
  clear hpl
  go_enter Try.func106, Try.ntmps106
  go_wp2_with (go_at_call 115; refine (primes_c n _ hn).mono ?_; rintro e w1 ⟨g0, p0, c0, rfl, hrow, hg0, hB⟩; have HN := Lib.hid hrow.nums.2.1; have HB := Lib.hid hB; clear hrow hB)
  go_loopw [5, 11] (fun v5 v11 wr => RoRel w1 n cube v5 v11 wr) (fun _ v11 _ => n - (intOf v11).toNat)
  case atStart => exact ⟨0, w1.heap.size, rfl, by omega, Row.nil _ _ _ _, by omega, Below.refl _ _⟩
  case round =>
    obtain ⟨i, g, rfl, hi, hO, hg, hB1⟩ := hrel
    have HO := Lib.hid hO
    have HB1 := Lib.hid hB1
    clear hO hB1
    by_cases hlt : i < n
    · have hlI : (i : Int) < (n : Int) := by omega
      have hip : i < (primesL n).length := by rw [HPL.out]; exact hlt
      obtain ⟨gq, oq, rfl, hcell⟩ := (HN.out.below HB1.out) i hip
      have htk : (rootsL n cube).take (i + 1) = (rootsL n cube).take i ++ [rootU ((primesL n)[i]'hip) cube] := by
        have hir : i < (rootsL n cube).length := by rw [HRL.out]; exact hlt
        rw [List.take_succ_eq_append_getElem hir]
        simp [rootsL]
      obtain ⟨P, hP⟩ : ∃ P, P = (primesL n)[i]'hip := ⟨_, rfl⟩
      rw [← hP] at htk hcell
      have HT := Lib.hid htk
      clear htk hP hip
      go_wp2_with (first
        | (go_at_call 116; refine (root_c P cube _).mono ?_; rintro e w' ⟨rfl, rfl⟩)
        | (at_builtin; refine wpList_append_row rfl _ _ 144 rfl 142 (.int .u32 0) 1 4 Try.underlying144 Try.infoU rfl (by decide) g _ i (((rootsL n cube).take i).map U) rfl (Row.only HO.out ((Only.refl (fun _ => False) wr).alloc _) (fun h => h)) ⟨wr.heap.size, 0, none⟩ 1 1 [U (rootU P cube)] rfl rfl (cell_one wr _ _) (by simp [Value.oneCell', U]) (by unfold maxLen; omega) (by omega) (wr.heap.size + 1) (by simp) ?_; intro g' v' w2 hrow hg' hO1))
      have hs1 := hO1.size
      have hsz := HB1.out.size
      simp only [World.size_alloc] at hs1
      refine ⟨⟨i + 1, g', by simp, by omega, by rw [HT.out, List.map_append]; exact hrow, by omega, below_only (HB1.out.alloc hsz _) (by simp; omega) hO1 (by intro x hx e; omega)⟩, by simp [intOf]; omega⟩
    · have hlI : ¬ (i : Int) < (n : Int) := by omega
      obtain rfl : i = n := by omega
      obtain ⟨q, c', hv', z1, z2⟩ := Row.form HO.out
      obtain ⟨rfl, hgl⟩ := z1 (by omega)
      subst hv'
      go_wp2
      go_ret
      refine ⟨g, c', rfl, ?_, by have := HB.out.size; omega, hgl, HB.out.trans (HB1.out.mono HB.out.size)⟩
      have ht : (rootsL i cube).take i = rootsL i cube := List.take_of_length_le (by rw [HRL.out]; omega)
      have h := HO.out
      rw [ht] at h
      exact h
end Go.Proofs.Ytegmimnhkohaoaa
/-
  The contract of sha.padded. Condition: at most 2 to the 47th bytes, less two thousand.
-/
namespace Go.Proofs.Ytegmimnhkohaoaa
open Go.RowKit Go.Kx
set_option linter.unusedVariables false
set_option linter.unusedSimpArgs false
attribute [local go_sem ↓] D_add D_mul D_or D_and D_sub D_shl

/-- So many noughts are put behind. -/
def padZ (L : Nat) : Nat := (119 - L % 64) % 64
def padL (b : List UInt8) : List UInt8 := (b ++ [128]) ++ List.replicate (padZ b.length) 0 ++ be (8 * b.length) 8
theorem padZ_end (L : Nat) : (L + 1 + padZ L) % 64 = 56 := by unfold padZ; omega
theorem padZ_not {L k : Nat} (h : k < padZ L) : (L + 1 + k) % 64 ≠ 56 := by unfold padZ at h; omega
theorem padZ_lt (L : Nat) : padZ L < 64 := by unfold padZ; omega
theorem padL_len (b : List UInt8) : (padL b).length % 64 = 0 ∧ (padL b).length ≤ b.length + 73 := by
  have h1 := padZ_end b.length
  have h2 := padZ_lt b.length
  unfold padL
  simp only [List.length_append, List.length_replicate, be_length, List.length_cons, List.length_nil]
  omega

def PadR (w : World) (X : List UInt8) (e : Ending) (w' : World) : Prop := ∃ g n c, e = .returned (.slice (some ⟨g, 0, none⟩) n c) ∧ X.length = n ∧ Own w' g (.slice (some ⟨g, 0, none⟩) n c) X ∧ w.heap.size ≤ g ∧ g < w'.heap.size ∧ n ≤ c ∧ c ≤ maxLen ∧ Below w.heap.size w w'

def PadA (w : World) (b : List UInt8) (v3 : Value) (wr : World) : Prop := ∃ (k g m c : Nat), v3 = .slice (some ⟨g, 0, none⟩) m c ∧ m = b.length + 1 + k ∧ k ≤ padZ b.length ∧ Own wr g (.slice (some ⟨g, 0, none⟩) m c) ((b ++ [128]) ++ List.replicate k 0) ∧ w.heap.size ≤ g ∧ g < wr.heap.size ∧ Below w.heap.size w wr
def PadM (b : List UInt8) (v3 : Value) : Nat := match v3 with
  | .slice _ n _ => b.length + 100 - n
  | _ => 0

/-- The lowest byte. -/
def cut8 (x : UInt64) : UInt8 := UInt8.ofNat x.toNat
theorem cvD8 (x : UInt64) (w : World) : (convert 49 5 (D x)).run Try.prog w = .ok (.int .u8 ((cut8 x).toNat : Int)) w := by
  unfold cut8
  have hk : Try.prog.intKind 5 = .u8 := by kernel_rfl
  have h2 := run_convert_int (P := Try.prog) (w := w) 49 5 .u64 (x.toNat : Int) (by rw [Try.underlying49]; rfl) (by rw [hk]; exact Try.underlying5)
  have h : IntKind.u8.wrap (x.toNat : Int) = ((UInt8.ofNat x.toNat).toNat : Int) := by
    rw [UInt8.toNat_ofNat']
    unfold IntKind.wrap
    simp [IntKind.bits, IntKind.signed]
  rw [hk, h] at h2
  exact h2
def PadB (w : World) (b : List UInt8) (v3 v5 : Value) (wr : World) : Prop := ∃ (i : Nat) (z : Int) (g m c : Nat) (dn : List UInt8), v3 = .slice (some ⟨g, 0, none⟩) m c ∧ v5 = .int .i64 z ∧ i ≤ 8 ∧ z = (i : Int) - 1 ∧ ((b ++ [128]) ++ List.replicate (padZ b.length) 0 ++ dn).length = m ∧
  Own wr g (.slice (some ⟨g, 0, none⟩) m c) ((b ++ [128]) ++ List.replicate (padZ b.length) 0 ++ dn) ∧ dn ++ be (8 * b.length) i = be (8 * b.length) 8 ∧ w.heap.size ≤ g ∧ g < wr.heap.size ∧ Below w.heap.size w wr

set_option maxHeartbeats 4000000 in
set_option maxRecDepth 10000 in
theorem padded_c (S : Nat → Prop) (p : Option Addr) (n c : Nat) (b : List UInt8) (w : World) (hR : Rd w S p b) (hp : p = none → c = 0) (hl : b.length + 2000 ≤ 140737488355328) (hn : b.length = n) :
    Calls Try.prog 107 #[.slice p n c] w (PadR w (padL b)) := by
  subst hn
  have HR := Lib.hid (And.intro hR hp)
  clear hR hp
  go_enter Try.func107, Try.ntmps107
  go_wp2_with (first
    | (at_builtin; have hq := HO1.out.1; refine wpList_append_byte rfl _ _ 23 rfl Try.underlying23 Try.info5 g1 v1 b rfl hq 128 128 rfl rfl (by omega) ?_; intro g2 c2 w2 ho2 hg2 hl2 hc2 hm2 hO2; clear hq)
    | (at_builtin; refine wpList_append_bytes _ rfl _ _ 23 rfl Try.underlying23 Try.info5 w.heap.size _ [] rfl (Own.new w) S _ _ _ b rfl rfl HR.out.2 (HR.out.1.below ((Below.refl _ _).alloc (Nat.le_refl _) (.cells #[] 5))) (by simp; omega) ?_; intro g1 v1 w1 ho1 hg1 hO1 hnil1; have HO1 := Lib.hid (And.intro ho1 (And.intro hO1 hg1)); clear hnil1 ho1 hO1 hg1))
  have hz1 := HO1.out.2.1.size
  simp only [World.size_alloc] at hz1
  have hg1 := HO1.out.2.2
  simp only [World.size_alloc] at hg1
  have hB1 : Below w.heap.size w w1 := below_only ((Below.refl _ _).alloc (Nat.le_refl _) _) (by simp) HO1.out.2.1 (by intro x hx e; omega)
  have hB2 : Below w.heap.size w w2 := app_below hB1 (by omega) hB1.size hO2
  have HOB := Lib.hid (And.intro ho2 hB2)
  have hg2w : w.heap.size ≤ g2 := by omega
  clear hB1 hB2 ho2 hO2 hg1 hg2
  go_loopw [3] (fun v3 wr => PadA w b v3 wr) (fun v3 _ => PadM b v3)
  case atStart => exact ⟨0, g2, _, c2, rfl, rfl, by omega, by simpa using HOB.out.1, hg2w, hl2, HOB.out.2⟩
  case round =>
    obtain ⟨k, g, m, c3, rfl, hmv, hk, hO, hg, hgl, hB⟩ := hrel
    have hz := padZ_lt b.length
    have HO := Lib.hid hO
    have HB := Lib.hid hB
    have HM := Lib.hid hmv
    have hm0 : 0 < m := by omega
    have hmb : m ≤ b.length + 64 := by omega
    have hsz := hB.size
    clear hO hB
    have hmi : (0 : Int) ≤ (m : Int) := by omega
    by_cases hkz : k < padZ b.length
    · have hne := padZ_not hkz
      have hne2 : ¬ ((m : Int) % 64 = 56) := by omega
      have hrep : b ++ [128] ++ List.replicate (k + 1) 0 = (b ++ [128] ++ List.replicate k 0) ++ [0] := by rw [List.replicate_succ', ← List.append_assoc]
      have HREP := Lib.hid hrep
      have hxl : (b ++ [128] ++ List.replicate k (0 : UInt8)).length = m := by simp; omega
      have HXL := Lib.hid hxl
      clear hmv hrep hxl
      go_wp2_with (at_builtin; refine wpList_append_byte rfl _ _ 23 rfl Try.underlying23 Try.info5 g _ (b ++ [128] ++ List.replicate k 0) rfl HO.out 0 0 rfl rfl (by rw [HXL.out]; omega) ?_; rw [HXL.out]; intro g4 c4 w4 ho4 hg4 hl4 hc4 hm4 hO4)
      refine ⟨⟨k + 1, g4, _, c4, rfl, by have := HM.out; omega, by omega, by rw [HREP.out]; exact ho4, by omega, hl4, app_below HB.out hg hsz hO4⟩, ?_⟩
      show b.length + 100 - (m + 1) < b.length + 100 - m
      omega
    · obtain rfl : k = padZ b.length := by omega
      have hend := padZ_end b.length
      have he2 : (m : Int) % 64 = 56 := by omega
      have hlb : (b.length : Int) ≤ 140737488355328 := by omega
      clear hmv hend
      go_wp2
      obtain ⟨X, hX⟩ : ∃ X, X = UInt64.ofNat (8 * b.length) := ⟨_, rfl⟩
      have hXn : X.toNat = 8 * b.length := by rw [hX, UInt64.toNat_ofNat', Nat.mod_eq_of_lt (by omega)]
      have hXD : Value.int .u64 (8 * (b.length : Int)) = D X := by unfold D; rw [hXn]; congr 1
      rw [hXD]
      have HX := Lib.hid hXn
      have cv := cvD8
      clear hX hXn hXD he2
      go_loopw [3, 5] (fun v3 v5 wr => PadB w b v3 v5 wr) (fun _ v5 _ => (intOf v5 + 1).toNat)
      case atStart => exact ⟨8, 7, g, m, c3, [], rfl, rfl, by omega, by omega, by have := HM.out; simp; omega, by simpa using HO.out, by simp, hg, hgl, HB.out⟩
      case round =>
        clear hgl hg hsz hm0 hmb hmi hkz hk
        obtain ⟨i, z, g, m, c, dn, rfl, rfl, hi, hz, hml, hO, hdn, hg, hgl, hB⟩ := hrel
        have hXL : (b ++ [128] ++ List.replicate (padZ b.length) (0 : UInt8)).length ≤ b.length + 64 := by simp; omega
        have hdl : dn.length + i = 8 := by
          have := congrArg List.length hdn
          rw [List.length_append, be_length, be_length] at this
          exact this
        have HO2 := Lib.hid (And.intro hO (And.intro hdn (And.intro hB hml)))
        have hm1 : m ≤ b.length + 100 := by rw [← hml, List.length_append]; omega
        have hszr := hB.size
        have HDL := Lib.hid hdl
        clear hO hdn hB hml hdl hXL
        by_cases h0 : i = 0
        · subst h0
          obtain rfl : z = -1 := by omega
          clear hz hi
          obtain ⟨c', hc'⟩ := And.intro HO2.out.1.form HDL.out
          obtain ⟨p5, c5, hv5, y1, y2, y3, y4, y5⟩ := HO2.out.1.form
          have e5 : c5 = c := by simp at hv5; exact hv5.2.2.symm
          subst e5
          have HV := Lib.hid (And.intro y1 (And.intro y2 hv5))
          clear hv5 y3 y4 y5 y1 y2
          clear c' hc'
          go_wp2
          go_ret
          have hd : dn = be (8 * b.length) 8 := by have := HO2.out.2.1; simpa [be] using this
          subst hd
          exact ⟨g, m, c5, rfl, HO2.out.2.2.2, HO2.out.1, hg, hgl, by rw [← HO2.out.2.2.2]; exact HV.out.1, HV.out.2.1, HO2.out.2.2.1⟩
        · obtain ⟨j, rfl⟩ : ∃ j, i = j + 1 := ⟨i - 1, by omega⟩
          obtain rfl : z = (j : Int) := by omega
          have hj0 : (0 : Int) ≤ (j : Int) := by omega
          have hj7 : (j : Int) ≤ 7 := by omega
          have hsh := fun w => D_shr (P := Try.prog) (w := w) (t := 49) X .i64 (8 * (j : Int)) (by omega)
          have ht8 : (8 * (j : Int)).toNat = 8 * j := by omega
          rw [ht8] at hsh
          clear hz
          go_wp2_with (at_builtin; refine wpList_append_byte rfl _ _ 23 rfl Try.underlying23 Try.info5 g _ (b ++ [128] ++ List.replicate (padZ b.length) 0 ++ dn) rfl HO2.out.1 _ (cut8 (shr64 X (8 * j))) rfl rfl (by rw [HO2.out.2.2.2]; omega) ?_; rw [HO2.out.2.2.2]; intro g4 c4 w4 ho4 hg4 hl4 hc4 hm4 hO4)
          have hbyte : cut8 (shr64 X (8 * j)) = UInt8.ofNat (8 * b.length / 256 ^ j) := by
            unfold cut8 shr64
            rw [HX.out, UInt64.toNat_ofNat', Nat.mod_eq_of_lt (Nat.lt_of_le_of_lt (Nat.div_le_self _ _) (by omega)), Nat.pow_mul]
          have hdn2 : (dn ++ [cut8 (shr64 X (8 * j))]) ++ be (8 * b.length) j = be (8 * b.length) 8 := by
            rw [hbyte, ← HO2.out.2.1, List.append_assoc]
            rfl
          refine ⟨⟨j, (j : Int) - 1, g4, m + 1, c4, dn ++ [cut8 (shr64 X (8 * j))], rfl, rfl, by omega, rfl, by rw [← List.append_assoc, List.length_append, HO2.out.2.2.2]; rfl, by rw [← List.append_assoc]; exact ho4, hdn2, by omega, hl4, app_below HO2.out.2.2.1 hg hszr hO4⟩, by simp [intOf]⟩
end Go.Proofs.Ytegmimnhkohaoaa
/-
  The contract of sha.spread. Condition: at least 64 bytes.
-/
namespace Go.Proofs.Ytegmimnhkohaoaa
open Go.RowKit Go.Kx
set_option linter.unusedVariables false
set_option linter.unusedSimpArgs false
attribute [local go_sem ↓] U_add U_mul U_xor U_or U_and U_not U_shl U_shr U_guard1 U_guard2 U_store exec_stU
attribute [local go_sem] st1_U st1_i

/-- An array of numbers of 32 bits in a block of its own. -/
def ArrU (w : World) (r t : Nat) (xs : List UInt32) : Prop := w.heap[r]? = some (.cells (xs.map U).toArray t (0, 0))
theorem ArrU.c {w : World} {r t : Nat} {xs : List UInt32} (h : ArrU w r t xs) (i : Nat) (hi : i < xs.length) : w.cell? ⟨r, i, none⟩ = some (U (xs[i]'hi)) := by
  unfold ArrU at h
  simp [World.cell?, h, hi]
theorem ArrU.fr {w : World} {r t : Nat} {xs : List UInt32} (h : ArrU w r t xs) (o : Nat) : w.frozen? ⟨r, o, none⟩ = false := by unfold ArrU at h; simp [World.frozen?, h]
theorem ArrU.lt {w : World} {r t : Nat} {xs : List UInt32} (h : ArrU w r t xs) : r < w.heap.size := (Array.getElem?_eq_some_iff.1 h).1
theorem ArrU.only {w w' : World} {q : Nat → Prop} {r t : Nat} {xs : List UInt32} (h : ArrU w r t xs) (ho : Only q w w') (hd : ¬ q r) : ArrU w' r t xs := (ho.block r h.lt hd).trans h
theorem ArrU.below {w w' : World} {r t : Nat} {xs : List UInt32} (h : ArrU w r t xs) (ho : Below w.heap.size w w') : ArrU w' r t xs := (ho.block r h.lt).trans h
theorem ArrU.new (w : World) (t : Nat) (xs : List UInt32) : ArrU (w.alloc (.cells (xs.map U).toArray t)) w.heap.size t xs := heap_alloc_new w _
theorem ArrU.set {w : World} {r t : Nat} {xs : List UInt32} (h : ArrU w r t xs) (i : Nat) (x : UInt32) : ArrU (w.setCell ⟨r, i, none⟩ (U x)) r t (xs.set i x) := by
  unfold ArrU at *
  simp [World.setCell, Array.getElem?_modify, h, List.map_set]

theorem arr_ones (xs : List UInt32) : ((xs.map U).toArray).all (fun v => v.oneCell') = true := by
  rw [Array.all_eq_true_iff_forall_mem]
  intro v hv
  simp only [List.mem_toArray, List.mem_map] at hv
  obtain ⟨x, _, rfl⟩ := hv
  rfl
theorem ArrU.setRow {w : World} {r t : Nat} {xs : List UInt32} (h : ArrU w r t xs) (ys : List UInt32) : ArrU (w.setRow r (ys.map U).toArray) r t ys := by
  unfold ArrU at *
  simp [World.setRow, Array.getElem?_modify, h]
theorem only_setRow (w : World) (r : Nat) (C : Array Value) : Only (· = r) w (w.setRow r C) :=
  ⟨rfl, rfl, rfl, by simp, fun k _ hk => by simp only [World.setRow, Array.getElem?_modify]; rw [if_neg (by omega)]⟩
/-- A whole array is read, is written. -/
theorem ld_arrU {P : Program} {ops : Array Oper} {rest : List Oper} {op : Oper} {a : Act} {w : World} {Q : Exit → Act → World → Prop} (hgd : op.guard = none) (ty : TypeId) (x : Operand) (ho : op.op = .load ty x)
    (g : Nat) (hx : a.eval x = .pointer (some ⟨g, 0, none⟩)) (t : TypeId) (xs : List UInt32) (hg : ArrU w g t xs) (n e : Nat) (hu : P.underlying ty = some (.array n e)) (hi : (P.info? ty).map (·.size) = some xs.length)
    (h : wpList P ops Q rest (a.put op.dst (.agg (xs.map U).toArray)) w) : wpList P ops Q (op :: rest) a w :=
  wpList_load_row hgd ty x ho g hx t _ (0, 0) (.array n e) hg hu rfl (by rw [hi]; simp) h
theorem st_arrU {P : Program} {ops : Array Oper} {rest : List Oper} {op : Oper} {a : Act} {w : World} {Q : Exit → Act → World → Prop} (hgd : op.guard = none) (ty : TypeId) (x y : Operand) (ho : op.op = .store ty x y)
    (g : Nat) (xs : List UInt32) (hx : a.eval x = .pointer (some ⟨g, 0, none⟩)) (hy : a.eval y = .agg (xs.map U).toArray) (t : TypeId) (old : List UInt32) (hg : ArrU w g t old) (hi : (P.info? ty).map (·.size) = some xs.length) (hl : old.length = xs.length)
    (h : ∀ w', ArrU w' g t xs → Only (· = g) w w' → wpList P ops Q rest (a.put op.dst undef) w') : wpList P ops Q (op :: rest) a w :=
  wpList_store_row hgd ty x y ho g _ hx hy t _ hg (by rw [hi]; simp) (by simpa using hl) (arr_ones xs) (h _ (hg.setRow xs) (only_setRow w g _))

/-- A byte is put into its word. -/
def put8 (b : List UInt8) (xs : List UInt32) (i : Nat) : List UInt32 := xs.set (i / 4) (shl32 (xs.getD (i / 4) 0) 8 ||| (b.getD i 0).toUInt32)
def words (b : List UInt8) : Nat → List UInt32
  | 0 => List.replicate 64 0
  | i + 1 => put8 b (words b i) i
theorem words_len (b : List UInt8) (i : Nat) : (words b i).length = 64 := by
  induction i with
  | zero => simp [words]
  | succ i ih => simp only [words, put8, List.length_set, ih]
/-- A word that follows. -/
def nextW (a b c d : UInt32) : UInt32 := a + b + (rotr c 7 ^^^ rotr c 18 ^^^ shr32 c 3) + (rotr d 17 ^^^ rotr d 19 ^^^ shr32 d 10)
def sch (xs : List UInt32) (i : Nat) : List UInt32 := xs.set i (nextW (xs.getD (i - 16) 0) (xs.getD (i - 7) 0) (xs.getD (i - 15) 0) (xs.getD (i - 2) 0))
def schedK (b : List UInt8) : Nat → List UInt32
  | 0 => words b 64
  | k + 1 => sch (schedK b k) (16 + k)
theorem schedK_len (b : List UInt8) (i : Nat) : (schedK b i).length = 64 := by
  induction i with
  | zero => exact words_len b 64
  | succ i ih => simp only [schedK, sch, List.length_set, ih]
def sched (b : List UInt8) : List UInt32 := schedK b 48

theorem cvB32 (x : UInt8) (w : World) : (convert 5 142 (.int .u8 (x.toNat : Int))).run Try.prog w = .ok (U x.toUInt32) w := by
  have hk : Try.prog.intKind 142 = .u32 := by kernel_rfl
  have h2 := run_convert_int (P := Try.prog) (w := w) 5 142 .u8 (x.toNat : Int) (by rw [Try.underlying5]; rfl) (by rw [hk]; exact Try.underlying142)
  have h : IntKind.u32.wrap (x.toNat : Int) = (x.toUInt32.toNat : Int) := by
    have h8 := x.toNat_lt
    rw [wrap_u32, UInt8.toNat_toUInt32, Nat.mod_eq_of_lt (by omega)]
  rw [hk, h] at h2
  exact h2

theorem rotr_k (x : UInt32) (k : Int) (n : Nat) (w : World) (hk : k = (n : Int)) (h : 1 ≤ n ∧ n ≤ 31) : Calls Try.prog 118 #[U x, .int .i64 k] w fun e w' => e = .returned (U (rotr x n)) ∧ w' = w := by
  subst hk
  exact (rotr_c x n w h).mono fun _ _ h => ⟨h.1, h.2.symm⟩
theorem below_drewN' {B : Nat} {a w : World} (h : Below B a w) (n : Nat) : Below B a (w.drewN n) := h.trans ⟨rfl, rfl, rfl, Nat.le_refl _, fun _ _ => rfl⟩
theorem Try.infoA64 : (Try.prog.info? 147).map (·.size) = some 64 := by kernel_rfl
def SpRel (w : World) (b : List UInt8) (v12 : Value) (wr : World) : Prop := ∃ i : Nat, v12 = .int .i64 (i : Int) ∧ i ≤ 64 ∧ ArrU wr (w.heap.size + 1) 147 (words b i) ∧ ArrU wr w.heap.size 147 (List.replicate 64 0) ∧ Below w.heap.size w wr
def SpRel2 (w : World) (b : List UInt8) (v6 : Value) (wr : World) : Prop := ∃ i : Nat, v6 = .int .i64 (16 + (i : Int)) ∧ i ≤ 48 ∧ ArrU wr (w.heap.size + 1) 147 (schedK b i) ∧ ArrU wr w.heap.size 147 (List.replicate 64 0) ∧ Below w.heap.size w wr
def SpR (w : World) (b : List UInt8) (e : Ending) (w' : World) : Prop := e = .returned (.agg ((sched b).map U).toArray) ∧ Below w.heap.size w w'

set_option maxHeartbeats 4000000 in
theorem spread_c (S : Nat → Prop) (p : Option Addr) (n c : Nat) (b : List UInt8) (w : World) (hR : Rd w S p b) (hn : b.length = n) (h64 : 64 ≤ n) (hc : n ≤ c) :
    Calls Try.prog 117 #[.slice p n c] w (SpR w b) := by
  subst hn
  have cv := cvB32
  obtain ⟨g, o, rfl, hS, hgl, hcell⟩ := hR.at (by omega)
  have HC := Lib.hid hcell
  clear hcell hR
  have hA : ∀ W, W = (w.alloc (.cells ((List.replicate 64 (0 : UInt32)).map U).toArray 147)).alloc (.cells ((List.replicate 64 (0 : UInt32)).map U).toArray 147) → SpRel w b (.int .i64 0) W := by
    rintro W rfl
    refine ⟨0, rfl, by omega, ?_, (ArrU.new w _ _).below ((Below.refl _ _).alloc (Nat.le_refl _) _), ((Below.refl _ _).alloc (Nat.le_refl _) _).alloc (by simp) _⟩
    have := ArrU.new (w.alloc (.cells ((List.replicate 64 (0 : UInt32)).map U).toArray 147)) 147 (List.replicate 64 0)
    simpa only [World.size_alloc, words] using this
  have HA := Lib.hid hA
  clear hA
  have hb64 : 64 ≤ (b.length : Int) := by omega
  go_enter Try.func117, Try.ntmps117
  go_wp2
  go_loopw [12] (fun v12 wr => SpRel w b v12 wr) (fun v12 _ => (64 - intOf v12).toNat)
  case atStart => exact HA.out _ rfl
  case round =>
    obtain ⟨i, rfl, hi, hA1, hA0, hB⟩ := hrel
    have HB := Lib.hid (And.intro hA1 (And.intro hA0 hB))
    by_cases hlt : i < 64
    · have hl := words_len b i
      have hq : i / 4 < 64 := by omega
      have c1 := hA1.c (i / 4) (by rw [hl]; exact hq)
      have f1 := hA1.fr (i / 4)
      have hgw : g < w.heap.size := hgl
      have hcb := (hB.cell (p := ⟨g, o + i, none⟩) hgl).trans (HC.out i (by omega))
      obtain ⟨B, hBd⟩ : ∃ B : UInt8, B = b[i]'(by omega) := ⟨_, rfl⟩
      rw [← hBd] at hcb
      obtain ⟨X, hX⟩ : ∃ X, X = (words b i)[i / 4]'(by rw [hl]; exact hq) := ⟨_, rfl⟩
      rw [← hX] at c1
      have hst : words b (i + 1) = (words b i).set (i / 4) (shl32 X 8 ||| B.toUInt32) := by
        show put8 b (words b i) i = _
        unfold put8
        rw [hX, hBd]
        simp only [List.getD_eq_getElem?_getD, List.getElem?_eq_getElem (by rw [hl]; exact hq : i / 4 < (words b i).length), List.getElem?_eq_getElem (by omega : i < b.length), Option.getD_some]
      have HST := Lib.hid hst
      have hti : ((i : Int) / 4).toNat = i / 4 := by omega
      have hlI : (i : Int) < 64 := by omega
      clear hst hBd hX hl hA1 hA0 hB
      go_wp2
      refine ⟨⟨i + 1, by simp, by omega, by rw [HST.out]; exact HB.out.1.set _ _, HB.out.2.1.only ((Only.refl (fun k => k = w.heap.size + 1) wr).setCell _ _ (.inl rfl)) (by omega), HB.out.2.2.setCell (by simp) _⟩, by simp [intOf]; omega⟩
    · have h64i : i = 64 := by omega
      have hge : ¬ (i : Int) < 64 := by omega
      rw [h64i] at hA1
      clear hlt hi h64i HB
      go_wp2
      clear hge
      clear HA
      go_loopw [6] (fun v6 wr => SpRel2 w b v6 wr) (fun v6 _ => (64 - intOf v6).toNat)
      case atStart => exact ⟨0, rfl, by omega, hA1, hA0, hB⟩
      case round =>
        clear hA1 hA0 hB
        obtain ⟨i, rfl, hi, hA1, hA0, hB⟩ := hrel
        have HB := Lib.hid (And.intro hA1 (And.intro hA0 hB))
        by_cases hlt : i < 48
        · have hl := schedK_len b i
          have c1 := hA1.c i (by omega)
          have c2 := hA1.c (i + 9) (by omega)
          have c3 := hA1.c (i + 1) (by omega)
          have c4 := hA1.c (i + 14) (by omega)
          have f1 := hA1.fr (16 + i)
          have c5 := hA1.c (16 + i) (by omega)
          obtain ⟨x1, h1⟩ : ∃ x, x = (schedK b i)[i]'(by omega) := ⟨_, rfl⟩
          obtain ⟨x2, h2⟩ : ∃ x, x = (schedK b i)[i + 9]'(by omega) := ⟨_, rfl⟩
          obtain ⟨x3, h3⟩ : ∃ x, x = (schedK b i)[i + 1]'(by omega) := ⟨_, rfl⟩
          obtain ⟨x4, h4⟩ : ∃ x, x = (schedK b i)[i + 14]'(by omega) := ⟨_, rfl⟩
          obtain ⟨x5, h5⟩ : ∃ x, x = (schedK b i)[16 + i]'(by omega) := ⟨_, rfl⟩
          rw [← h1] at c1
          rw [← h2] at c2
          rw [← h3] at c3
          rw [← h4] at c4
          rw [← h5] at c5
          have hst : schedK b (i + 1) = (schedK b i).set (16 + i) (nextW x1 x2 x3 x4) := by
            show sch (schedK b i) (16 + i) = _
            unfold sch
            rw [show 16 + i - 16 = i by omega, show 16 + i - 7 = i + 9 by omega, show 16 + i - 15 = i + 1 by omega, show 16 + i - 2 = i + 14 by omega, h1, h2, h3, h4]
            simp only [List.getD_eq_getElem?_getD, List.getElem?_eq_getElem (by omega : i < (schedK b i).length), List.getElem?_eq_getElem (by omega : i + 9 < (schedK b i).length), List.getElem?_eq_getElem (by omega : i + 1 < (schedK b i).length), List.getElem?_eq_getElem (by omega : i + 14 < (schedK b i).length), Option.getD_some]
          have HST := Lib.hid hst
          have hlI : 16 + (i : Int) < 64 := by omega
          have t1 : (16 + (i : Int) - 16).toNat = i := by omega
          have t2 : (16 + (i : Int) - 7).toNat = i + 9 := by omega
          have t3 : (16 + (i : Int) - 15).toNat = i + 1 := by omega
          have t4 : (16 + (i : Int) - 2).toNat = i + 14 := by omega
          have t5 : (16 + (i : Int)).toNat = 16 + i := by omega
          clear hst h1 h2 h3 h4 h5 hl hA1 hA0 hB
          go_upto_region 10 with (fail)
          go_quiet (fail)
          go_upto_region 11 with (fail)
          have s1 : IntKind.i64.wrap (16 + (i : Int) - 16) = (i : Int) := by rw [IntWalk.i64_in _ ⟨by omega, by omega⟩]; omega
          have s2 : IntKind.i64.wrap (16 + (i : Int) - 7) = (i : Int) + 9 := by rw [IntWalk.i64_in _ ⟨by omega, by omega⟩]; omega
          have b1 : (0 : Int) ≤ (i : Int) := by omega
          have b2 : (0 : Int) ≤ (i : Int) + 9 := by omega
          have b3 : (i : Int) < 64 := by omega
          have b4 : (i : Int) + 9 < 64 := by omega
          have b5 : ((i : Int) + 9).toNat = i + 9 := by omega
          have b6 : (0 : Int) ≤ 16 + (i : Int) := by omega
          have n1 : (⟨w.heap.size + 1, 16 + i, none⟩ : Addr) ≠ ⟨w.heap.size + 1, i, none⟩ := by intro h; injection h with _ h _; omega
          have n2 : (⟨w.heap.size + 1, 16 + i, none⟩ : Addr) ≠ ⟨w.heap.size + 1, i + 9, none⟩ := by intro h; injection h with _ h _; omega
          go_region_held3 (fun w' => w'.cell? ⟨w.heap.size + 1, i, none⟩ = some (U x1) ∧ w'.cell? ⟨w.heap.size + 1, i + 9, none⟩ = some (U x2)) (first | exact ⟨c1, c2⟩ | exact ⟨(World.cell?_setCell_other _ _ _ _ n1).trans c1, (World.cell?_setCell_other _ _ _ _ n2).trans c2⟩) ((go_at_call 118; (first | (with_reducible refine (rotr_k _ 7 7 _ rfl (by omega)).mono ?_) | (with_reducible refine (rotr_k _ 18 18 _ rfl (by omega)).mono ?_) | (with_reducible refine (rotr_k _ 17 17 _ rfl (by omega)).mono ?_) | (with_reducible refine (rotr_k _ 19 19 _ rfl (by omega)).mono ?_)); rintro e w' ⟨rfl, rfl⟩))
          all_goals go_wp2
          clear s1 s2
          refine ⟨⟨i + 1, by congr 1, by omega, ?_, ?_, ?_⟩, by simp [intOf]; omega⟩
          · rw [HST.out]
            exact (HB.out.1.only (Only.drewN _ (Only.refl (fun _ => False) _)) (fun h => h)).set _ _
          · exact HB.out.2.1.only ((Only.drewN _ (Only.refl (fun k => k = w.heap.size + 1) wr)).setCell _ _ (.inl rfl)) (by omega)
          · exact (below_drewN' HB.out.2.2 _).setCell (by simp) _
        · obtain rfl : i = 48 := by omega
          have hi2 : ¬ (16 : Int) + 48 < 64 := by omega
          go_upto_region 12 with (fail)
          go_wp2_with (first
            | (refine ld_arrU rfl 147 _ rfl _ rfl _ _ HB.out.1 _ _ Try.underlying147 (by rw [schedK_len]; exact Try.infoA64) ?_)
            | (refine st_arrU rfl 147 _ _ rfl w.heap.size (schedK b 48) rfl rfl _ _ HB.out.2.1 (by rw [schedK_len]; exact Try.infoA64) (by rw [schedK_len]; simp) ?_; intro w5 hA5 hO5))
          refine bodyPost_ret (v := .agg ((schedK b 48).map U).toArray) (results_cell_row (P := Try.prog) Try.results117 _ _ w.heap.size _ _ _ _ rfl hA5 Try.underlying147 rfl (by rw [Try.infoA64]; simp [schedK_len])) rfl (And.intro rfl ?_)
          exact below_only HB.out.2.2 HB.out.2.2.size hO5 (by intro k hk e; omega)
end Go.Proofs.Ytegmimnhkohaoaa
