/-
  The contracts of relayref08's u16, vec, ext, share. Conditions: at most 2 to the 47th bytes.
-/
import Derived.Test.YtegmimnhkohaoaaZg2
import Derived.Test.YtegmimnhkohaoaaZg1
import Derived.Deep.RegionHeld3
import Derived.Laws.CopyOwn
import Derived.Deep.RegionLaw
namespace Go.Proofs.Ytegmimnhkohaoaa
open Go.RowKit Go.Kx
set_option linter.unusedVariables false
set_option linter.unusedSimpArgs false

/-- The low eight bits. -/
def b8 (z : Int) : UInt8 := UInt8.ofNat (z % 256).toNat
theorem b8_nat (z : Int) : ((b8 z).toNat : Int) = z % 256 := by
  unfold b8
  rw [UInt8.toNat_ofNat']
  omega
def u16L (n : Int) : List UInt8 := [b8 (n / 256), b8 n]
theorem u16L_nat (n : Nat) (h : n < 65536) : u16L (n : Int) = be n 2 := by
  have e1 : b8 ((n : Int) / 256) = UInt8.ofNat (n / 256 ^ 1) := by
    unfold b8
    apply UInt8.toNat_inj.1
    rw [UInt8.toNat_ofNat', UInt8.toNat_ofNat']
    omega
  have e2 : b8 (n : Int) = UInt8.ofNat (n / 256 ^ 0) := by
    unfold b8
    apply UInt8.toNat_inj.1
    rw [UInt8.toNat_ofNat', UInt8.toNat_ofNat']
    omega
  unfold u16L
  rw [e1, e2]
  rfl
theorem Own.lit (w : World) (l : List UInt8) (h : l.length ≤ 1000) : Own (w.alloc (.cells (l.map B8).toArray 5)) w.heap.size (.slice (some ⟨w.heap.size, 0, none⟩) l.length l.length) l :=
  ⟨⟨by simp, .inr ⟨w.heap.size, l.length, (l.map B8).toArray, rfl, Nat.zero_le _, heap_alloc_new w _, Nat.le_refl _, by unfold maxLen; omega, by simp, by simp [List.take_of_length_le]⟩⟩, .inr rfl⟩
theorem u16_c (n : Int) (w : World) : Calls Try.prog 40 #[.int .i64 n] w (PutYes w (u16L n)) := by
  have h := Own.lit w (u16L n) (by simp [u16L])
  have e : (u16L n).map B8 = [.int .u8 (n / 256 % 256), .int .u8 (n % 256)] := by simp [u16L, B8, b8_nat]
  rw [e] at h
  have H := Lib.hid h
  clear h e
  go_enter Try.func40, Try.ntmps40
  go_wp2
  go_ret
  exact ⟨w.heap.size, 2, 2, rfl, rfl, Nat.le_refl _, by rw [World.size_alloc]; omega, Nat.le_refl _, by unfold maxLen; omega, H.out, (Below.refl _ _).alloc (Nat.le_refl _) _⟩

/-- One round of vec. -/
def VRel (w : World) (n W : Nat) (v5 v6 : Value) (wr : World) : Prop :=
  ∃ (k : Nat) (z : Int) (g : Nat) (dn : List UInt8), v6 = .int .i64 z ∧ z = (k : Int) - 1 ∧ k ≤ W ∧ w.heap.size ≤ g ∧ (k < W → g < wr.heap.size) ∧ Own wr g v5 dn ∧ dn ++ be n k = be n W ∧ Below w.heap.size w wr

set_option maxHeartbeats 4000000 in
set_option maxRecDepth 100000 in
theorem rvec8_c (S : Nat → Prop) (p : Option Addr) (n c : Nat) (l : List UInt8) (W : Nat) (w : World) (hR : Rd w S p l) (hp : p = none → c = 0) (hl : l.length + 4 ≤ 140737488355328) (hm : l.length = n) (hW : W = 1 ∨ W = 2) :
    Calls Try.prog 41 #[.slice p n c, .int .i64 (W : Int)] w (PutYes w (be n W ++ l)) := by
  suffices H : ∀ V, V = W → Calls Try.prog 41 #[.slice p n c, .int .i64 (W : Int)] w (PutYes w (be n V ++ l)) from H W rfl
  intro V hV
  have hV4 : 1 ≤ V ∧ V ≤ 2 := by omega
  have hn4 : n ≤ 140737488355328 := by omega
  have HR := Lib.hid (And.intro hR (And.intro hp hm))
  clear hR hp hm
  rcases hW with rfl | rfl
  · show Calls Try.prog 41 #[.slice p n c, .int .i64 1] w (PutYes w (be n V ++ l))
    go_enter Try.func41, Try.ntmps41
    go_wp2
    go_loopw [5, 6] (fun v5 v6 wr => VRel w n V v5 v6 wr) (fun _ v6 _ => (intOf v6 + 1).toNat)
    case atStart => exact ⟨V, _, w.heap.size, [], rfl, by omega, by omega, Nat.le_refl _, by omega, Own.nil _ _, by simp, Below.refl _ _⟩
    case round =>
      obtain ⟨k, z, g, dn, rfl, hz, hk, hg, hgl, hO, hdn, hB⟩ := hrel
      have HO := Lib.hid hO
      have HDN := Lib.hid hdn
      have HBB := Lib.hid hB
      have hdl : dn.length + k ≤ 2 := by
        have := congrArg List.length hdn
        rw [List.length_append, be_length, be_length] at this
        omega
      have hs : w.heap.size ≤ wr.heap.size := hB.size
      clear hO hdn hB
      by_cases hk0 : k = 0
      · subst hk0
        obtain rfl : z = -1 := by omega
        clear hz hk
        have hd : dn = be n V := by have := HDN.out; simpa [be] using this
        subst hd
        clear HDN
        have hRr := HR.out.1.below HBB.out
        have HRr := Lib.hid hRr
        clear hRr
        go_wp2_with (at_builtin; refine wpList_append_bytes _ rfl _ _ 23 rfl Try.underlying23 Try.info5 g u5 (be n V) rfl HO.out S p n c l rfl HR.out.2.2 HR.out.2.1 HRr.out (by rw [be_length]; omega) ?_; intro g' v' w' hO' hg' ho' hnil; have H9 := Lib.hid (And.intro hO' (And.intro hg' (And.intro ho' hnil))); clear hO' hg' ho' hnil)
        go_ret
        have hnn : v' ≠ .slice none 0 0 := by
          intro e
          have h := H9.out.1.form
          rw [e] at h
          obtain ⟨_, _, h1, _⟩ := h
          simp at h1
          have h3 := h1.2.1
          rw [be_length] at h3
          omega
        obtain ⟨c', rfl, h1, h2, h3⟩ := H9.out.1.shape hnn
        have hsz := H9.out.2.2.1.size
        refine ⟨g', _, c', rfl, rfl, by rcases H9.out.2.1 with h | h <;> omega, h3, h1, h2, H9.out.1, below_only HBB.out hs H9.out.2.2.1 (by intro k hk e; omega)⟩
      · obtain ⟨j, rfl⟩ : ∃ j, k = j + 1 := ⟨k - 1, by omega⟩
        have hj : (j = 0 ∧ z = 0) ∨ (j = 1 ∧ z = 1) := by omega
        have HK := Lib.hid hk
        clear hk
        rcases hj with ⟨hj, rfl⟩ | ⟨hj, rfl⟩
        all_goals
          clear hz
          have HJ := Lib.hid hj
          clear hj
          go_wp2_with (at_builtin; refine wpList_append_row rfl _ _ 23 rfl 5 (.int .u8 0) 1 1 Try.underlying23 Try.info5 rfl (by decide) g u5 dn.length (dn.map B8) rfl (Row.only HO.out ((Only.refl (fun _ => False) wr).alloc _) (fun h => h)) ⟨wr.heap.size, 0, none⟩ 1 1 [_] rfl rfl (cell_one wr _ _) (by simp [Value.oneCell']) (by simp only [maxLen]; omega) (by omega) (wr.heap.size + 1) (by simp) ?_; intro gB' v7' w7 hrow hg' hO7)
          have z7 := hO7.size
          simp only [World.size_alloc] at z7
          have hb7 := below_only (HBB.out.alloc HBB.out.size _) (by simp; have := HBB.out.size; omega) hO7 (by intro k hk e; omega)
          obtain ⟨_, _, _, hf, _⟩ := Row.form hrow
          refine ⟨⟨j, _, gB', dn ++ [UInt8.ofNat (n / 256 ^ j)], rfl, by have := HJ.out; omega, by have := HK.out; omega, by omega, fun _ => (hf (by omega)).2, ?_, by rw [List.append_assoc]; exact HDN.out, hb7⟩, by simp [intOf]⟩
          refine own_snoc _ hrow ?_
          rw [HJ.out, UInt8.toNat_ofNat']
          omega
  · show Calls Try.prog 41 #[.slice p n c, .int .i64 2] w (PutYes w (be n V ++ l))
    go_enter Try.func41, Try.ntmps41
    go_wp2
    go_loopw [5, 6] (fun v5 v6 wr => VRel w n V v5 v6 wr) (fun _ v6 _ => (intOf v6 + 1).toNat)
    case atStart => exact ⟨V, _, w.heap.size, [], rfl, by omega, by omega, Nat.le_refl _, by omega, Own.nil _ _, by simp, Below.refl _ _⟩
    case round =>
      obtain ⟨k, z, g, dn, rfl, hz, hk, hg, hgl, hO, hdn, hB⟩ := hrel
      have HO := Lib.hid hO
      have HDN := Lib.hid hdn
      have HBB := Lib.hid hB
      have hdl : dn.length + k ≤ 2 := by
        have := congrArg List.length hdn
        rw [List.length_append, be_length, be_length] at this
        omega
      have hs : w.heap.size ≤ wr.heap.size := hB.size
      clear hO hdn hB
      by_cases hk0 : k = 0
      · subst hk0
        obtain rfl : z = -1 := by omega
        clear hz hk
        have hd : dn = be n V := by have := HDN.out; simpa [be] using this
        subst hd
        clear HDN
        have hRr := HR.out.1.below HBB.out
        have HRr := Lib.hid hRr
        clear hRr
        go_wp2_with (at_builtin; refine wpList_append_bytes _ rfl _ _ 23 rfl Try.underlying23 Try.info5 g u5 (be n V) rfl HO.out S p n c l rfl HR.out.2.2 HR.out.2.1 HRr.out (by rw [be_length]; omega) ?_; intro g' v' w' hO' hg' ho' hnil; have H9 := Lib.hid (And.intro hO' (And.intro hg' (And.intro ho' hnil))); clear hO' hg' ho' hnil)
        go_ret
        have hnn : v' ≠ .slice none 0 0 := by
          intro e
          have h := H9.out.1.form
          rw [e] at h
          obtain ⟨_, _, h1, _⟩ := h
          simp at h1
          have h3 := h1.2.1
          rw [be_length] at h3
          omega
        obtain ⟨c', rfl, h1, h2, h3⟩ := H9.out.1.shape hnn
        have hsz := H9.out.2.2.1.size
        refine ⟨g', _, c', rfl, rfl, by rcases H9.out.2.1 with h | h <;> omega, h3, h1, h2, H9.out.1, below_only HBB.out hs H9.out.2.2.1 (by intro k hk e; omega)⟩
      · obtain ⟨j, rfl⟩ : ∃ j, k = j + 1 := ⟨k - 1, by omega⟩
        have hj : (j = 0 ∧ z = 0) ∨ (j = 1 ∧ z = 1) := by omega
        have HK := Lib.hid hk
        clear hk
        rcases hj with ⟨hj, rfl⟩ | ⟨hj, rfl⟩
        all_goals
          clear hz
          have HJ := Lib.hid hj
          clear hj
          go_wp2_with (at_builtin; refine wpList_append_row rfl _ _ 23 rfl 5 (.int .u8 0) 1 1 Try.underlying23 Try.info5 rfl (by decide) g u5 dn.length (dn.map B8) rfl (Row.only HO.out ((Only.refl (fun _ => False) wr).alloc _) (fun h => h)) ⟨wr.heap.size, 0, none⟩ 1 1 [_] rfl rfl (cell_one wr _ _) (by simp [Value.oneCell']) (by simp only [maxLen]; omega) (by omega) (wr.heap.size + 1) (by simp) ?_; intro gB' v7' w7 hrow hg' hO7)
          have z7 := hO7.size
          simp only [World.size_alloc] at z7
          have hb7 := below_only (HBB.out.alloc HBB.out.size _) (by simp; have := HBB.out.size; omega) hO7 (by intro k hk e; omega)
          obtain ⟨_, _, _, hf, _⟩ := Row.form hrow
          refine ⟨⟨j, _, gB', dn ++ [UInt8.ofNat (n / 256 ^ j)], rfl, by have := HJ.out; omega, by have := HK.out; omega, by omega, fun _ => (hf (by omega)).2, ?_, by rw [List.append_assoc]; exact HDN.out, hb7⟩, by simp [intOf]⟩
          refine own_snoc _ hrow ?_
          rw [HJ.out, UInt8.toNat_ofNat']
          omega

theorem vec1_c (S : Nat → Prop) (p : Option Addr) (n c : Nat) (l : List UInt8) (w : World) (hR : Rd w S p l) (hp : p = none → c = 0) (hl : l.length + 4 ≤ 140737488355328) (hm : l.length = n) :
    Calls Try.prog 41 #[.slice p n c, .int .i64 1] w (PutYes w (be n 1 ++ l)) := rvec8_c S p n c l 1 w hR hp hl hm (.inl rfl)
theorem vec2_c (S : Nat → Prop) (p : Option Addr) (n c : Nat) (l : List UInt8) (w : World) (hR : Rd w S p l) (hp : p = none → c = 0) (hl : l.length + 4 ≤ 140737488355328) (hm : l.length = n) :
    Calls Try.prog 41 #[.slice p n c, .int .i64 2] w (PutYes w (be n 2 ++ l)) := rvec8_c S p n c l 2 w hR hp hl hm (.inr rfl)
theorem wext_len (kind : Int) (n : Nat) (l : List UInt8) : (u16L kind ++ (be n 2 ++ l)).length = l.length + 4 := by simp [u16L, be_length]; omega
theorem own_ne {w : World} {g : Nat} {v : Value} {l : List UInt8} (h : Own w g v l) (hl : 0 < l.length) : v ≠ .slice none 0 0 := by
  intro e
  obtain ⟨_, _, h1, _⟩ := h.form
  rw [e] at h1
  simp at h1
  omega
theorem PutYes.of {w w' : World} {g : Nat} {v : Value} {l : List UInt8} (h : Own w' g v l) (hl : 0 < l.length) (hg : w.heap.size ≤ g) (hb : Below w.heap.size w w') : PutYes w l (.returned v) w' := by
  obtain ⟨c', rfl, h1, h2, h3⟩ := h.shape (own_ne h hl)
  exact ⟨g, _, c', rfl, rfl, hg, h3, h1, h2, h, hb⟩

set_option maxHeartbeats 4000000 in
set_option maxRecDepth 100000 in
theorem rext_c (kind : Int) (S : Nat → Prop) (p : Option Addr) (n c : Nat) (l : List UInt8) (w : World) (hR : Rd w S p l) (hp : p = none → c = 0) (hl : l.length + 8 ≤ 140737488355328) (hm : l.length = n) :
    Calls Try.prog 39 #[.int .i64 kind, .slice p n c] w (PutYes w (u16L kind ++ (be n 2 ++ l))) := by
  have HR := Lib.hid (And.intro hR (And.intro hp hm))
  clear hR hp hm
  go_enter Try.func39, Try.ntmps39
  go_wp2_with (first
    | (go_at_call 40; refine (u16_c kind _).mono ?_; rintro e w1 ⟨g1, n1, c1, rfl, l1, h1, h2, h3, h4, h5, h6⟩; have H1 := Lib.hid (And.intro l1 (And.intro h5 h6)); clear l1 h5 h6)
    | (go_at_call 41; refine (vec2_c S p n c l _ (HR.out.1.below H1.out.2.2) HR.out.2.1 (by omega) HR.out.2.2).mono ?_; rintro e w2 ⟨g2, n2, c2, rfl, l2, k1, k2, k3, k4, k5, k6⟩; have H2 := Lib.hid (And.intro l2 (And.intro k5 (And.intro k6 (Own.keep H1.out.2.1 k6)))); clear l2 k5 k6)
    | (at_builtin; refine wpList_append_bytes _ rfl _ _ 23 rfl Try.underlying23 Try.info5 g1 _ (u16L kind) rfl H2.out.2.2.2 (fun k => k = g2) _ n2 c2 (be n 2 ++ l) rfl H2.out.1 (by intro h; cases h) H2.out.2.1.rd (by simp [u16L, be_length]; omega) ?_; intro g' v' w' hO' hg' ho' hnil; have H9 := Lib.hid (And.intro hO' (And.intro hg' ho')); clear hO' hg' ho' hnil))
  go_ret
  have hs := H1.out.2.2.size
  have hs2 := H2.out.2.2.1.size
  refine PutYes.of H9.out.1 (by rw [wext_len]; omega) (by rcases H9.out.2.1 with h | h <;> omega) (below_only (H1.out.2.2.trans (H2.out.2.2.1.mono hs)) (by omega) H9.out.2.2 (by intro k hk e; omega))

def shareB (g : Int) (n : Nat) : Bool := (decide (0 ≤ g) && decide (g ≤ 65535)) && (decide (1 ≤ n) && decide (n ≤ 64))
theorem rshare_c (g : Int) (p : Option Addr) (n c : Nat) (w : World) : Calls Try.prog 38 #[.agg #[.int .i64 g, .slice p n c]] w fun e w' => e = .returned (.bool (shareB g n)) ∧ Below w.heap.size w w' := by
  have hbx := Box2.new w 25 (.int .i64 g) (.slice p n c)
  have hB0 : Below w.heap.size w (w.alloc (.cells #[.int .i64 g, .slice p n c] 25)) := (Below.refl _ _).alloc (Nat.le_refl _) _
  have c0 := hbx.c0
  have c1 := hbx.c1
  have HB := Lib.hid hB0
  clear hbx hB0
  go_enter Try.func38, Try.ntmps38
  go_wp2
  all_goals go_ret
  all_goals (refine ⟨congrArg Ending.returned (congrArg Value.bool ?_), HB.out⟩; unfold shareB; rw [Bool.eq_iff_iff]; simp only [Bool.and_eq_true, decide_eq_true_eq, Bool.false_eq_true, false_iff]; omega)

/-- Values that lie somewhere. -/
def RdV (w : World) (S : Nat → Prop) (p : Option Addr) (l : List Value) : Prop := ∀ i (h : i < l.length), ∃ a, p = some a ∧ S a.block ∧ w.cell? (a.add i) = some l[i]
theorem RdV.nil (w : World) (S : Nat → Prop) (p : Option Addr) : RdV w S p [] := fun i h => absurd h (by simp)
theorem RdV.none_nil {w : World} {S : Nat → Prop} {l : List Value} (h : RdV w S none l) : l = [] := by
  cases l with
  | nil => rfl
  | cons b r => obtain ⟨a, ha, _⟩ := h 0 (by simp); cases ha
theorem RdV.kept {w w' : World} {S : Nat → Prop} {p : Option Addr} {l : List Value} (h : RdV w S p l) (hk : ∀ k, k < w.heap.size → S k → w'.heap[k]? = w.heap[k]?) : RdV w' S p l := by
  intro i hi
  obtain ⟨a, rfl, hs, hc⟩ := h i hi
  refine ⟨a, rfl, hs, ?_⟩
  have hlt : a.block < w.heap.size := by have := World.block_lt_of_cell? w _ hc; rwa [add_block] at this
  exact (World.cell?_of_block (w := w) (w' := w') (by rw [add_block]; exact hk a.block hlt hs)).trans hc
theorem RdV.only {w w' : World} {S r : Nat → Prop} {p : Option Addr} {l : List Value} (h : RdV w S p l) (ho : Only r w w') (hd : ∀ k, S k → ¬ r k) : RdV w' S p l := h.kept fun k hk hs => ho.block k hk (hd k hs)
theorem RdV.below {w w' : World} {S : Nat → Prop} {p : Option Addr} {l : List Value} (h : RdV w S p l) (ho : Below w.heap.size w w') : RdV w' S p l := h.kept fun k hk _ => ho.block k hk
theorem RdV.mono {w : World} {S T : Nat → Prop} {p : Option Addr} {l : List Value} (h : RdV w S p l) (hd : ∀ k, k < w.heap.size → S k → T k) : RdV w T p l := by
  intro i hi
  obtain ⟨a, rfl, hs, hc⟩ := h i hi
  exact ⟨a, rfl, hd _ (by have := World.block_lt_of_cell? w _ hc; rwa [add_block] at this) hs, hc⟩
theorem RdV.at {w : World} {S : Nat → Prop} {p : Option Addr} {l : List Value} (h : RdV w S p l) (hne : 0 < l.length) :
    ∃ g o, p = some ⟨g, o, none⟩ ∧ S g ∧ g < w.heap.size ∧ ∀ i (h : i < l.length), w.cell? ⟨g, o + i, none⟩ = some l[i] := by
  obtain ⟨⟨g, o, s⟩, rfl, hS, hc⟩ := h 0 hne
  have hs : s = none := by simpa [Addr.add] using World.cell?_spot hc
  subst hs
  refine ⟨g, o, rfl, hS, by have := World.block_lt_of_cell? w _ hc; simpa [Addr.add] using this, fun i hi => ?_⟩
  obtain ⟨a, ha, _, hc'⟩ := h i hi
  cases ha
  simp only [Addr.add] at hc'
  split at hc'
  · subst_vars; exact hc'
  · exact hc'
/-- A number as a cell. -/
abbrev I64 (n : Int) : Value := .int .i64 n
def RdI (w : World) (S : Nat → Prop) (p : Option Addr) (l : List Int) : Prop := RdV w S p (l.map I64)
theorem RdI.at {w : World} {S : Nat → Prop} {p : Option Addr} {l : List Int} (h : RdI w S p l) (hne : 0 < l.length) :
    ∃ g o, p = some ⟨g, o, none⟩ ∧ S g ∧ g < w.heap.size ∧ ∀ i (h : i < l.length), w.cell? ⟨g, o + i, none⟩ = some (.int .i64 l[i]) := by
  obtain ⟨g, o, h1, h2, h3, h4⟩ := RdV.at h (by simpa using hne)
  exact ⟨g, o, h1, h2, h3, fun i hi => by have := h4 i (by simpa using hi); simpa using this⟩

def in16 (x : Int) : Bool := decide (0 ≤ x) && decide (x ≤ 65535)
def all16B (l : List Int) (most : Int) : Bool := l.all in16 && decide ((l.length : Int) ≤ most)
theorem all_take_succ {α : Type} (f : α → Bool) (l : List α) (i : Nat) (h : i < l.length) : (l.take (i + 1)).all f = ((l.take i).all f && f l[i]) := by
  rw [List.take_succ_eq_append_getElem h, List.all_append]
  simp
theorem all_of_not {α : Type} (f : α → Bool) (l : List α) (i : Nat) (h : i < l.length) (hf : f l[i] = false) : l.all f = false := by
  rw [List.all_eq_false]
  exact ⟨l[i], List.getElem_mem h, by simp [hf]⟩
set_option maxHeartbeats 4000000 in
set_option maxRecDepth 100000 in
theorem all16_c (S : Nat → Prop) (p : Option Addr) (n c : Nat) (l : List Int) (most : Int) (w : World) (hR : RdI w S p l) (hm : l.length = n) (hn : n ≤ 140737488355328) : Calls Try.prog 36 #[.slice p n c, .int .i64 most] w fun e w' => e = .returned (.bool (all16B l most)) ∧ w = w' := by
  subst hm
  have HR := Lib.hid hR
  clear hR
  obtain ⟨r, hr⟩ : ∃ r, r = all16B l most := ⟨_, rfl⟩
  rw [← hr]
  have HX := Lib.hid hr
  clear hr
  go_enter Try.func36, Try.ntmps36
  go_wp2
  go_loop [5] (fun v5 => ∃ i : Nat, i ≤ l.length ∧ v5 = .int .i64 (i : Int) ∧ (l.take i).all in16 = true) (fun v5 => (l.length - (intOf v5).toNat))
  case atStart => exact ⟨0, by omega, rfl, rfl⟩
  case round =>
    obtain ⟨i, hi, rfl, hal⟩ := hrel
    have HA := Lib.hid hal
    clear hal
    by_cases hlt : i < l.length
    · obtain ⟨g, o, rfl, -, hg, hc⟩ := HR.out.at (by omega)
      have hci := hc i hlt
      have hts := all_take_succ in16 l i hlt
      have hno := all_of_not in16 l i hlt
      obtain ⟨x, hx⟩ : ∃ x, x = l[i] := ⟨_, rfl⟩
      rw [← hx] at hci hts hno
      have HT := Lib.hid (And.intro hts hno)
      clear hts hno hx hc
      have HLT := Lib.hid hlt
      by_cases h1 : x < 0
      · have hf : in16 x = false := by unfold in16; simp; omega
        have HF := Lib.hid (HT.out.2 hf)
        clear hf
        go_wp2
        go_ret
        refine ⟨congrArg Ending.returned (congrArg Value.bool ?_), rfl⟩
        rw [HX.out]; unfold all16B; rw [HF.out]; rfl
      · by_cases h2 : 65535 < x
        · have hf : in16 x = false := by unfold in16; simp; omega
          have HF := Lib.hid (HT.out.2 hf)
          clear hf
          go_wp2
          go_ret
          refine ⟨congrArg Ending.returned (congrArg Value.bool ?_), rfl⟩
          rw [HX.out]; unfold all16B; rw [HF.out]; rfl
        · have hf : in16 x = true := by unfold in16; simp; omega
          have HF := Lib.hid hf
          clear hf
          go_wp2
          go_round
          case rel => exact ⟨i + 1, by have := HLT.out; omega, by go_num, by rw [HT.out.1, HA.out, HF.out]; rfl⟩
          case measure => have := HLT.out; simp [intOf]; omega
    · obtain rfl : i = l.length := by omega
      have hl : l.take l.length = l := List.take_length
      have HL := Lib.hid hl
      clear hl
      go_wp2
      go_ret
      refine ⟨congrArg Ending.returned (congrArg Value.bool ?_), rfl⟩
      have h := HA.out
      rw [HL.out] at h
      rw [HX.out]; unfold all16B; rw [h]; rfl
end Go.Proofs.Ytegmimnhkohaoaa
/-
  The contract of package hello's writer's list. Conditions: at most 2 to the 46th bytes stand in it; at most 2 to the 44th numbers.
-/
namespace Go.Proofs.Ytegmimnhkohaoaa
open Go.RowKit Go.Kx
set_option linter.unusedVariables false
set_option linter.unusedSimpArgs false

/-- Numbers side by side. -/
def wI (l : List Int) : WS := l.foldl (fun y n => wU y n 2) ([], false)
theorem wI_snoc (l : List Int) (n : Int) : wI (l ++ [n]) = wU (wI l) n 2 := by unfold wI; rw [List.foldl_append]; rfl
theorem wI_len (l : List Int) : (wI l).1.length ≤ 4 * l.length := by
  have key : ∀ (l : List Int) (y : WS), (l.foldl (fun y n => wU y n 2) y).1.length ≤ y.1.length + 4 * l.length := by
    intro l
    induction l with
    | nil => intro y; simp
    | cons n t ih =>
      intro y
      have h1 := ih (wU y n 2)
      have h2 := wU_len y n 2 (by decide)
      simp only [List.foldl_cons, List.length_cons]
      omega
  have := key l ([], false)
  unfold wI
  simpa using this
def wL (x : WS) (l : List Int) (W most : Int) : WS := wV (wM (wM x (decide (1 ≤ l.length) && decide ((l.length : Int) ≤ most))) (!(wI l).2)) (wI l).1 W 0 65535
theorem RdI.only {w w' : World} {S q : Nat → Prop} {p : Option Addr} {l : List Int} (h : RdI w S p l) (ho : Only q w w') (hd : ∀ k, S k → ¬ q k) : RdI w' S p l := RdV.only h ho hd
theorem RdI.below {w w' : World} {S : Nat → Prop} {p : Option Addr} {l : List Int} (h : RdI w S p l) (ho : Below w.heap.size w w') : RdI w' S p l := RdV.below h ho
theorem RdI.mono {w : World} {S T : Nat → Prop} {p : Option Addr} {l : List Int} (h : RdI w S p l) (hd : ∀ k, k < w.heap.size → S k → T k) : RdI w T p l := RdV.mono h hd

set_option maxHeartbeats 8000000 in
set_option maxRecDepth 100000 in
theorem wlist_c (r : Nat) (x : WS) (p : Option Addr) (n c : Nat) (l : List Int) (W most : Int) (w : World) (hr : Wr w r x) (hR : RdI w (· ≠ r) p l) (hn : l.length = n) (hl : n ≤ 8796093022208) (hx : x.1.length ≤ 70368744177664) (hW : W ≤ 2) :
    Calls Try.prog 51 #[rp r, .slice p n c, .int .i64 W, .int .i64 most] w (WrR w r (wL x l W most)) := by
  have hlt := hr.lt
  obtain ⟨b1, hb1⟩ : ∃ b, b = decide (1 ≤ l.length) := ⟨_, rfl⟩
  obtain ⟨b2, hb2⟩ : ∃ b, b = decide ((l.length : Int) ≤ most) := ⟨_, rfl⟩
  have hw : wL x l W most = wV (wM (wM x (b1 && b2)) (!(wI l).2)) (wI l).1 W 0 65535 := by unfold wL; rw [hb1, hb2]
  rw [hn] at hb1 hb2
  have H0 := Lib.hid (And.intro hr (And.intro hR (And.intro hn hw)))
  have hwl := wI_len l
  rw [hn] at hwl
  clear hr hR hn hw
  cases b1 <;> cases b2 <;> (
    have hc1 : decide (1 ≤ (n : Int)) = _ := (show decide (1 ≤ (n : Int)) = decide (1 ≤ n) by rw [Bool.eq_iff_iff]; simp; omega).trans hb1.symm
    have hc2 := hb2.symm
    have hc3 := hb1.symm
    clear hb1 hb2
    go_enter Try.func51, Try.ntmps51
    go_upto_region 3 with (go_at_call 27; refine (wr_must r _ x _ H0.out.1).mono ?_; rintro e w1 ⟨rfl, hX, ho⟩; have H1 := Lib.hid (And.intro hX (And.intro ho (Wr.new w1))); have hz1 := ho.size; clear hX ho)
    clear hc1 hc2 hc3
    have hz2 := World.size_alloc w1 (.cells #[.slice none 0 0, .bool false] 80)
    have hB2 : Below w1.heap.size w1 (w1.alloc (.cells #[.slice none 0 0, .bool false] 80)) := (Below.refl _ _).alloc (Nat.le_refl _) _
    have hI2 : Wr (w1.alloc (.cells #[.slice none 0 0, .bool false] 80)) w1.heap.size ([], false) ∧ RdI (w1.alloc (.cells #[.slice none 0 0, .bool false] 80)) (fun k => k ≠ r ∧ k < w.heap.size) p l ∧ Only (· = r) w (w1.alloc (.cells #[.slice none 0 0, .bool false] 80)) :=
      ⟨H1.out.2.2, ((H0.out.2.1.mono (T := fun k => k ≠ r ∧ k < w.heap.size) (fun k hk h => ⟨h, hk⟩)).only H1.out.2.1 (fun k hk e => hk.1 e)).below hB2, H1.out.2.1.then (Only.of_below hB2)⟩
    have hkey := fun wz (ho : Only (· = w1.heap.size) (w1.alloc (.cells #[.slice none 0 0, .bool false] 80)) wz) => H1.out.1.below (below_only hB2 (by rw [hz2]; omega) ho (by intro k hk e; omega))
    have HKEY := Lib.hid hkey
    clear hkey
    generalize w1.alloc (.cells #[.slice none 0 0, .bool false] 80) = w2 at *
    generalize w1.heap.size = wi at *
    have I2 := Lib.hid hI2
    clear hI2 hB2 H1
    go_loopw [26] (fun v26 wr => ∃ i : Nat, i ≤ n ∧ v26 = .int .i64 (i : Int) ∧ Wr wr wi (wI (l.take i)) ∧ Only (· = wi) w2 wr) (fun v26 _ => n - (intOf v26).toNat)
    case atStart => exact ⟨0, Nat.zero_le _, rfl, I2.out.1, Only.refl _ _⟩
    case round =>
      obtain ⟨i, hi, rfl, hW', hO'⟩ := hrel
      have HW := Lib.hid (And.intro hW' hO')
      have hzr := hO'.size
      clear hW' hO'
      by_cases hlt : i < n
      · have hil : i < l.length := by rw [H0.out.2.2.1]; exact hlt
        have hRr := I2.out.2.1.only HW.out.2 (by intro k hk e; omega)
        obtain ⟨g, o, rfl, -, hg, hc⟩ := hRr.at (by omega)
        have hci := hc i hil
        have hts : l.take (i + 1) = l.take i ++ [l[i]] := List.take_succ_eq_append_getElem hil
        have hln := wI_len (l.take i)
        have hlt2 : (l.take i).length ≤ n := by rw [List.length_take]; omega
        obtain ⟨v, hv⟩ : ∃ v, v = l[i] := ⟨_, rfl⟩
        rw [← hv] at hci hts
        have HT := Lib.hid hts
        clear hts hv hc hRr hil
        have HLT := Lib.hid hlt
        go_wp2_with (go_at_call 30; refine (wuint_c wi (wI (l.take i)) v 2 _ HW.out.1 (by omega)).mono ?_; rintro e w4 ⟨rfl, hX, ho⟩; have H4 := Lib.hid (And.intro hX ho); clear hX ho)
        refine ⟨⟨i + 1, by have := HLT.out; omega, by go_num, by rw [HT.out, wI_snoc]; exact H4.out.1, HW.out.2.then H4.out.2⟩, by have := HLT.out; simp [intOf]; omega⟩
      · obtain rfl : i = n := by omega
        have htl : l.take i = l := by rw [← H0.out.2.2.1]; exact List.take_length
        have hY := HW.out.1
        rw [htl] at hY
        obtain ⟨gy, py, ny, cy, hbx, hny, hgy, hOy⟩ := hY.ex
        have d1 := hbx.c1
        have hpy : py = none → cy = 0 := by obtain ⟨p', c', he, _, _, _, hp, _⟩ := hOy.form; cases he; exact hp
        have hXr := HKEY.out wr HW.out.2
        have HO := Lib.hid (And.intro hOy (And.intro hny (And.intro hpy (And.intro hbx hXr))))
        clear htl hY hbx hny hOy hpy hXr
        go_wp2_with (first
          | (go_at_call 27; refine (wr_must r (!(wI l).2) _ _ HO.out.2.2.2.2).mono ?_; rintro e w5 ⟨rfl, hX, ho⟩; have d0 := (HO.out.2.2.2.1.only ho (by omega)).c0; have HX := Lib.hid (And.intro hX (And.intro ho (HO.out.1.only ho (by omega)))); clear hX ho)
          | (go_at_call 31; refine (wvec_c r _ _ _ _ (wI l).1 W 0 65535 _ HX.out.1 HO.out.2.1 (HX.out.2.2.rd.mono (T := (· ≠ r)) (fun q _ hq => by omega)) HO.out.2.2.1 hW hx).mono ?_; rintro e w6 ⟨rfl, hX, ho⟩; have HZ := Lib.hid (And.intro hX ho); clear hX ho))
        go_end0
        rw [H0.out.2.2.2]
        refine ⟨rfl, HZ.out.1, ?_⟩
        have ha : Only (fun k => k = r ∨ k = wi) w wr := (I2.out.2.2.mono (fun _ _ h => .inl h)).then (HW.out.2.mono (fun _ _ h => .inr h))
        have hb := (ha.then (HX.out.2.1.mono (fun _ _ h => .inl h))).then (HZ.out.2.mono (fun _ _ h => .inl h))
        exact hb.mono (fun k hk h => by rcases h with h | h; exact h; omega))
end Go.Proofs.Ytegmimnhkohaoaa
/-
  The contracts of package hello's writer's binders and ids. Conditions: at most 2 to the 46th bytes in all.
-/
namespace Go.Proofs.Ytegmimnhkohaoaa
open Go.RowKit Go.Kx
set_option linter.unusedVariables false
set_option linter.unusedSimpArgs false
set_option maxRecDepth 100000

/-- Slices of bytes side by side, from p on, in blocks of S; their bytes in blocks of S, too. -/
def BdAt (w : World) (S : Nat → Prop) (p : Option Addr) (l : List (List UInt8)) : Prop := ∀ i (h : i < l.length), ∃ g o q m c, p = some ⟨g, o, none⟩ ∧ S g ∧ w.cell? ⟨g, o + i, none⟩ = some (.slice q m c) ∧ l[i].length = m ∧ Rd w S q l[i] ∧ (q = none → c = 0)
theorem cell_kept {w w' : World} {q : Nat → Prop} {g o : Nat} {v : Value} (ho : Only q w w') (hg : ¬ q g) (hc : w.cell? ⟨g, o, none⟩ = some v) : w'.cell? ⟨g, o, none⟩ = some v := by
  have hlt : g < w.heap.size := World.block_lt_of_cell? w _ hc
  exact (World.cell?_of_block (w := w) (w' := w') (a := ⟨g, o, none⟩) (ho.block g hlt hg)).trans hc
theorem BdAt.only {w w' : World} {S q : Nat → Prop} {p : Option Addr} {l : List (List UInt8)} (h : BdAt w S p l) (ho : Only q w w') (hq : ∀ k, S k → ¬ q k) : BdAt w' S p l := by
  intro i hi
  obtain ⟨g, o, a, m, c, rfl, hS, hc, hl, hr, hn⟩ := h i hi
  exact ⟨g, o, a, m, c, rfl, hS, cell_kept ho (hq _ hS) hc, hl, hr.only ho hq, hn⟩
theorem BdAt.mono {w : World} {S T : Nat → Prop} {p : Option Addr} {l : List (List UInt8)} (h : BdAt w S p l) (hT : ∀ k, k < w.heap.size → S k → T k) : BdAt w T p l := by
  intro i hi
  obtain ⟨g, o, a, m, c, rfl, hS, hc, hl, hr, hn⟩ := h i hi
  exact ⟨g, o, a, m, c, rfl, hT _ (World.block_lt_of_cell? w _ hc) hS, hc, hl, hr.mono hT, hn⟩
def wB (x : WS) (l : List (List UInt8)) : WS := l.foldl (fun y b => wV y b 1 32 32) x
theorem wB_snoc (x : WS) (l : List (List UInt8)) (b : List UInt8) : wB x (l ++ [b]) = wV (wB x l) b 1 32 32 := by unfold wB; rw [List.foldl_append]; rfl
theorem wV1_len (x : WS) (v : List UInt8) (l m : Int) : (wV x v 1 l m).1.length ≤ x.1.length + 256 := by
  unfold wV
  split
  · rename_i hk
    have h2 := (putOk_cast (N := v.length) (V := 1) hk).2
    simp [be_length]; omega
  · simp
theorem wB_len (l : List (List UInt8)) : ∀ x : WS, (wB x l).1.length ≤ x.1.length + 256 * l.length := by
  induction l with
  | nil => intro x; simp [wB]
  | cons b t ih =>
    intro x
    have h1 := ih (wV x b 1 32 32)
    have h2 := wV1_len x b 32 32
    show (wB (wV x b 1 32 32) t).1.length ≤ _
    rw [List.length_cons]
    omega

set_option maxHeartbeats 8000000 in
set_option maxRecDepth 100000 in
theorem wbinders_c (r : Nat) (x : WS) (p : Option Addr) (n c : Nat) (l : List (List UInt8)) (w : World) (hr : Wr w r x) (hR : BdAt w (· ≠ r) p l) (hn : l.length = n) (hnc : n ≤ 9223372036854775807) (hx : x.1.length + 256 * n ≤ 70368744177664) :
    Calls Try.prog 98 #[rp r, .slice p n c] w (WrR w r (wB x l)) := by
  subst hn
  have hlt := hr.lt
  have H0 := Lib.hid (And.intro hr (hR.mono (T := fun k => k ≠ r ∧ k < w.heap.size) (fun k hk h => ⟨h, hk⟩)))
  clear hr hR
  go_enter Try.func98, Try.ntmps98
  go_upto_region 1 with (fail)
  go_loopw [8] (fun v8 wr => ∃ i : Nat, i ≤ l.length ∧ v8 = .int .i64 (i : Int) ∧ Wr wr r (wB x (l.take i)) ∧ Only (· = r) w wr) (fun v8 _ => l.length - (intOf v8).toNat)
  case atStart => exact ⟨0, Nat.zero_le _, rfl, H0.out.1, Only.refl _ _⟩
  case round =>
    obtain ⟨i, hi, rfl, hW', hO'⟩ := hrel
    have HW := Lib.hid (And.intro hW' hO')
    have hzr := hO'.size
    clear hW' hO'
    by_cases hlt : i < l.length
    · obtain ⟨g, o, a, m, k, rfl, hS, hc, hl, hrd, hnl⟩ := (H0.out.2.only HW.out.2 (by intro k hk e; exact hk.1 e)) i hlt
      have hts : l.take (i + 1) = l.take i ++ [l[i]] := List.take_succ_eq_append_getElem hlt
      have hln := wB_len (l.take i) x
      have hlt2 : (l.take i).length ≤ l.length := by rw [List.length_take]; omega
      obtain ⟨v, hv⟩ : ∃ v, v = l[i] := ⟨_, rfl⟩
      rw [← hv] at hts hl hrd
      have HT := Lib.hid (And.intro hts (And.intro hl (And.intro (hrd.mono (T := (· ≠ r)) (fun k _ h => h.1)) hnl)))
      clear hts hv hl hrd hnl
      have HLT := Lib.hid hlt
      go_wp2_with (go_at_call 31; refine (wvec_c r _ _ _ _ v 1 32 32 _ HW.out.1 HT.out.2.1 HT.out.2.2.1 HT.out.2.2.2 (by decide) (by omega)).mono ?_; rintro e w4 ⟨rfl, hX, ho⟩; have H4 := Lib.hid (And.intro hX ho); clear hX ho)
      refine ⟨⟨i + 1, by have := HLT.out; omega, by go_num, by rw [HT.out.1, wB_snoc]; exact H4.out.1, HW.out.2.then H4.out.2⟩, by have := HLT.out; simp [intOf]; omega⟩
    · obtain rfl : i = l.length := by omega
      have htl : l.take l.length = l := List.take_length
      have HTL := Lib.hid htl
      clear htl
      go_wp2
      go_end0
      have h := HW.out.1
      rw [HTL.out] at h
      exact ⟨rfl, h, HW.out.2⟩
end Go.Proofs.Ytegmimnhkohaoaa
/-
  The contracts of package hello's writer's ids, and of the closure that puts shares. Conditions: at most 2 to the 46th bytes in all.
-/
namespace Go.Proofs.Ytegmimnhkohaoaa
open Go.RowKit Go.Kx
set_option linter.unusedVariables false
set_option linter.unusedSimpArgs false
set_option maxRecDepth 100000

/-- Tickets and ages, side by side, from p on. -/
def IdAt (w : World) (S : Nat → Prop) (p : Option Addr) (l : List (List UInt8 × Int)) : Prop := ∀ i (h : i < l.length), ∃ g o q m c, p = some ⟨g, o, none⟩ ∧ S g ∧ w.cell? ⟨g, o + i * 2, none⟩ = some (.slice q m c) ∧ w.cell? ⟨g, o + i * 2 + 1, none⟩ = some (.int .i64 l[i].2) ∧ l[i].1.length = m ∧ Rd w S q l[i].1 ∧ (q = none → c = 0)
theorem IdAt.only {w w' : World} {S q : Nat → Prop} {p : Option Addr} {l : List (List UInt8 × Int)} (h : IdAt w S p l) (ho : Only q w w') (hq : ∀ k, S k → ¬ q k) : IdAt w' S p l := by
  intro i hi
  obtain ⟨g, o, a, m, c, rfl, hS, hc, hd, hl, hr, hn⟩ := h i hi
  exact ⟨g, o, a, m, c, rfl, hS, cell_kept ho (hq _ hS) hc, cell_kept ho (hq _ hS) hd, hl, hr.only ho hq, hn⟩
theorem IdAt.mono {w : World} {S T : Nat → Prop} {p : Option Addr} {l : List (List UInt8 × Int)} (h : IdAt w S p l) (hT : ∀ k, k < w.heap.size → S k → T k) : IdAt w T p l := by
  intro i hi
  obtain ⟨g, o, a, m, c, rfl, hS, hc, hd, hl, hr, hn⟩ := h i hi
  exact ⟨g, o, a, m, c, rfl, hT _ (World.block_lt_of_cell? w _ hc) hS, hc, hd, hl, hr.mono hT, hn⟩
def wId (x : WS) (l : List (List UInt8 × Int)) : WS := l.foldl (fun y t => wU (wV y t.1 2 1 255) t.2 4) x
theorem wId_snoc (x : WS) (l : List (List UInt8 × Int)) (t : List UInt8 × Int) : wId x (l ++ [t]) = wU (wV (wId x l) t.1 2 1 255) t.2 4 := by unfold wId; rw [List.foldl_append]; rfl
theorem wId_len (l : List (List UInt8 × Int)) : ∀ x : WS, (wId x l).1.length ≤ x.1.length + 65541 * l.length := by
  induction l with
  | nil => intro x; simp [wId]
  | cons b t ih =>
    intro x
    have h1 := ih (wU (wV x b.1 2 1 255) b.2 4)
    have h2 := wV_len x b.1 2 1 255 (by decide)
    have h3 := wU_len (wV x b.1 2 1 255) b.2 4 (by decide)
    show (wId (wU (wV x b.1 2 1 255) b.2 4) t).1.length ≤ _
    rw [List.length_cons]
    omega

set_option maxHeartbeats 8000000 in
theorem wids_c (r : Nat) (x : WS) (p : Option Addr) (n c : Nat) (l : List (List UInt8 × Int)) (w : World) (hr : Wr w r x) (hR : IdAt w (· ≠ r) p l) (hn : l.length = n) (hx : x.1.length + 65541 * n ≤ 70368744177664) :
    Calls Try.prog 96 #[rp r, .slice p n c] w (WrR w r (wId (wM x (decide (n ≤ 4))) l)) := by
  subst hn
  have hnc : l.length ≤ 1099511627776 := by omega
  have hlt := hr.lt
  have H0 := Lib.hid (And.intro hr (hR.mono (T := fun k => k ≠ r ∧ k < w.heap.size) (fun k hk h => ⟨h, hk⟩)))
  have hbb : decide ((l.length : Int) ≤ 4) = decide (l.length ≤ 4) := by rw [Bool.eq_iff_iff]; simp; omega
  obtain ⟨b, hb⟩ : ∃ b, b = decide (l.length ≤ 4) := ⟨_, rfl⟩
  rw [← hb] at hbb ⊢
  have HB := Lib.hid hb
  have hb' := hb.symm
  clear hr hR hb
  go_enter Try.func96, Try.ntmps96
  go_upto_region 2 with (go_at_call 27; refine (wr_must r b x _ H0.out.1).mono ?_; rintro e w1 ⟨rfl, hX, ho⟩; have H1 := Lib.hid (And.intro hX ho); have hz1 := ho.size; clear hX ho)
  clear hbb hb'
  go_loopw [13] (fun v13 wr => ∃ i : Nat, i ≤ l.length ∧ v13 = .int .i64 (i : Int) ∧ Wr wr r (wId (wM x b) (l.take i)) ∧ Only (· = r) w wr) (fun v13 _ => l.length - (intOf v13).toNat)
  case atStart => exact ⟨0, Nat.zero_le _, rfl, H1.out.1, H1.out.2⟩
  case round =>
    obtain ⟨i, hi, rfl, hW', hO'⟩ := hrel
    have HW := Lib.hid (And.intro hW' hO')
    have hzr := hO'.size
    clear hW' hO'
    by_cases hlt : i < l.length
    · obtain ⟨g, o, a, m, k, rfl, hS, hc, hd, hl, hrd, hnl⟩ := (H0.out.2.only HW.out.2 (by intro k hk e; exact hk.1 e)) i hlt
      have hts : l.take (i + 1) = l.take i ++ [l[i]] := List.take_succ_eq_append_getElem hlt
      have hln := wId_len (l.take i) (wM x b)
      have hlt2 : (l.take i).length + 1 ≤ l.length := by rw [List.length_take]; omega
      have hwm : (wM x b).1.length ≤ x.1.length := Nat.le_refl _
      obtain ⟨v, hv⟩ : ∃ v, v = l[i] := ⟨_, rfl⟩
      rw [← hv] at hts hl hrd hd
      obtain ⟨tk, age⟩ := v
      simp only at hl hrd hd
      have hvl := wV_len (wId (wM x b) (l.take i)) tk 2 1 255 (by decide)
      have HT := Lib.hid (And.intro hts (And.intro hl (And.intro (hrd.mono (T := fun k => k ≠ r ∧ k < wr.heap.size) (fun k hk h => ⟨h.1, hk⟩)) hnl)))
      have hbx := Box2.new wr 104 (.slice a m k) (.int .i64 age)
      have hBz : Below wr.heap.size wr (wr.alloc (.cells #[.slice a m k, .int .i64 age] 104)) := (Below.refl _ _).alloc (Nat.le_refl _) _
      have HX := Lib.hid (And.intro hbx hBz)
      have hgr := World.block_lt_of_cell? wr _ hc
      have hrl := HW.out.1.lt
      clear hts hv hl hrd hnl hbx hBz
      have HLT := Lib.hid hlt
      go_wp2_with (first
        | (go_at_call 30; refine (wuint_c r _ age 4 _ H4.out.1 (by omega)).mono ?_; rintro e w5 ⟨rfl, hX, ho⟩; have H5 := Lib.hid (And.intro hX (H4.out.2.then ho)); clear hX ho)
        | (go_at_call 31; refine (wvec_c r _ _ _ _ tk 2 1 255 _ (HW.out.1.below HX.out.2) HT.out.2.1 ((HT.out.2.2.1.below HX.out.2).mono (T := (· ≠ r)) (fun k _ h => h.1)) HT.out.2.2.2 (by decide) (by omega)).mono ?_; rintro e w4 ⟨rfl, hX, ho⟩; have d1 := (HX.out.1.only ho (by omega)).c1; have H4 := Lib.hid (And.intro hX ho); clear hX ho))
      refine ⟨⟨i + 1, by have := HLT.out; omega, by go_num, by rw [HT.out.1, wId_snoc]; exact H5.out.1, HW.out.2.then ((Only.of_below HX.out.2).then H5.out.2)⟩, by have := HLT.out; simp [intOf]; omega⟩
    · obtain rfl : i = l.length := by omega
      have htl : l.take l.length = l := List.take_length
      have HTL := Lib.hid htl
      clear htl
      go_wp2
      go_end0
      have h := HW.out.1
      rw [HTL.out] at h
      exact ⟨rfl, h, HW.out.2⟩
end Go.Proofs.Ytegmimnhkohaoaa
/-
  The contract of sha.padded. Condition: at most 2 to the 47th bytes, less two thousand.
-/
namespace Go.Proofs.Ytegmimnhkohaoaa
open Go.RowKit Go.Kx
set_option linter.unusedVariables false
set_option linter.unusedSimpArgs false
attribute [local go_sem ↓] D_add D_mul D_or D_and D_sub D_shl

/-- So many noughts are put behind. -/
def padZ (L : Nat) : Nat := (119 - L % 64) % 64
def padL (b : List UInt8) : List UInt8 := (b ++ [128]) ++ List.replicate (padZ b.length) 0 ++ be (8 * b.length) 8
theorem padZ_end (L : Nat) : (L + 1 + padZ L) % 64 = 56 := by unfold padZ; omega
theorem padZ_not {L k : Nat} (h : k < padZ L) : (L + 1 + k) % 64 ≠ 56 := by unfold padZ at h; omega
theorem padZ_lt (L : Nat) : padZ L < 64 := by unfold padZ; omega
theorem padL_len (b : List UInt8) : (padL b).length % 64 = 0 ∧ (padL b).length ≤ b.length + 73 := by
  have h1 := padZ_end b.length
  have h2 := padZ_lt b.length
  unfold padL
  simp only [List.length_append, List.length_replicate, be_length, List.length_cons, List.length_nil]
  omega

def PadR (w : World) (X : List UInt8) (e : Ending) (w' : World) : Prop := ∃ g n c, e = .returned (.slice (some ⟨g, 0, none⟩) n c) ∧ X.length = n ∧ Own w' g (.slice (some ⟨g, 0, none⟩) n c) X ∧ w.heap.size ≤ g ∧ g < w'.heap.size ∧ n ≤ c ∧ c ≤ maxLen ∧ Below w.heap.size w w'

def PadA (w : World) (b : List UInt8) (v3 : Value) (wr : World) : Prop := ∃ (k g m c : Nat), v3 = .slice (some ⟨g, 0, none⟩) m c ∧ m = b.length + 1 + k ∧ k ≤ padZ b.length ∧ Own wr g (.slice (some ⟨g, 0, none⟩) m c) ((b ++ [128]) ++ List.replicate k 0) ∧ w.heap.size ≤ g ∧ g < wr.heap.size ∧ Below w.heap.size w wr
def PadM (b : List UInt8) (v3 : Value) : Nat := match v3 with
  | .slice _ n _ => b.length + 100 - n
  | _ => 0

/-- The lowest byte. -/
def cut8 (x : UInt64) : UInt8 := UInt8.ofNat x.toNat
theorem cvD8 (x : UInt64) (w : World) : (convert 49 5 (D x)).run Try.prog w = .ok (.int .u8 ((cut8 x).toNat : Int)) w := by
  unfold cut8
  have hk : Try.prog.intKind 5 = .u8 := by kernel_rfl
  have h2 := run_convert_int (P := Try.prog) (w := w) 49 5 .u64 (x.toNat : Int) (by rw [Try.underlying49]; rfl) (by rw [hk]; exact Try.underlying5)
  have h : IntKind.u8.wrap (x.toNat : Int) = ((UInt8.ofNat x.toNat).toNat : Int) := by
    rw [UInt8.toNat_ofNat']
    unfold IntKind.wrap
    simp [IntKind.bits, IntKind.signed]
  rw [hk, h] at h2
  exact h2
def PadB (w : World) (b : List UInt8) (v3 v5 : Value) (wr : World) : Prop := ∃ (i : Nat) (z : Int) (g m c : Nat) (dn : List UInt8), v3 = .slice (some ⟨g, 0, none⟩) m c ∧ v5 = .int .i64 z ∧ i ≤ 8 ∧ z = (i : Int) - 1 ∧ ((b ++ [128]) ++ List.replicate (padZ b.length) 0 ++ dn).length = m ∧
  Own wr g (.slice (some ⟨g, 0, none⟩) m c) ((b ++ [128]) ++ List.replicate (padZ b.length) 0 ++ dn) ∧ dn ++ be (8 * b.length) i = be (8 * b.length) 8 ∧ w.heap.size ≤ g ∧ g < wr.heap.size ∧ Below w.heap.size w wr

set_option maxHeartbeats 4000000 in
set_option maxRecDepth 10000 in
theorem padded_c (S : Nat → Prop) (p : Option Addr) (n c : Nat) (b : List UInt8) (w : World) (hR : Rd w S p b) (hp : p = none → c = 0) (hl : b.length + 2000 ≤ 140737488355328) (hn : b.length = n) :
    Calls Try.prog 107 #[.slice p n c] w (PadR w (padL b)) := by
  subst hn
  have HR := Lib.hid (And.intro hR hp)
  clear hR hp
  go_enter Try.func107, Try.ntmps107
  go_wp2_with (first
    | (at_builtin; have hq := HO1.out.1; refine wpList_append_byte rfl _ _ 23 rfl Try.underlying23 Try.info5 g1 v1 b rfl hq 128 128 rfl rfl (by omega) ?_; intro g2 c2 w2 ho2 hg2 hl2 hc2 hm2 hO2; clear hq)
    | (at_builtin; refine wpList_append_bytes _ rfl _ _ 23 rfl Try.underlying23 Try.info5 w.heap.size _ [] rfl (Own.new w) S _ _ _ b rfl rfl HR.out.2 (HR.out.1.below ((Below.refl _ _).alloc (Nat.le_refl _) (.cells #[] 5))) (by simp; omega) ?_; intro g1 v1 w1 ho1 hg1 hO1 hnil1; have HO1 := Lib.hid (And.intro ho1 (And.intro hO1 hg1)); clear hnil1 ho1 hO1 hg1))
  have hz1 := HO1.out.2.1.size
  simp only [World.size_alloc] at hz1
  have hg1 := HO1.out.2.2
  simp only [World.size_alloc] at hg1
  have hB1 : Below w.heap.size w w1 := below_only ((Below.refl _ _).alloc (Nat.le_refl _) _) (by simp) HO1.out.2.1 (by intro x hx e; omega)
  have hB2 : Below w.heap.size w w2 := app_below hB1 (by omega) hB1.size hO2
  have HOB := Lib.hid (And.intro ho2 hB2)
  have hg2w : w.heap.size ≤ g2 := by omega
  clear hB1 hB2 ho2 hO2 hg1 hg2
  go_loopw [3] (fun v3 wr => PadA w b v3 wr) (fun v3 _ => PadM b v3)
  case atStart => exact ⟨0, g2, _, c2, rfl, rfl, by omega, by simpa using HOB.out.1, hg2w, hl2, HOB.out.2⟩
  case round =>
    obtain ⟨k, g, m, c3, rfl, hmv, hk, hO, hg, hgl, hB⟩ := hrel
    have hz := padZ_lt b.length
    have HO := Lib.hid hO
    have HB := Lib.hid hB
    have HM := Lib.hid hmv
    have hm0 : 0 < m := by omega
    have hmb : m ≤ b.length + 64 := by omega
    have hsz := hB.size
    clear hO hB
    have hmi : (0 : Int) ≤ (m : Int) := by omega
    by_cases hkz : k < padZ b.length
    · have hne := padZ_not hkz
      have hne2 : ¬ ((m : Int) % 64 = 56) := by omega
      have hrep : b ++ [128] ++ List.replicate (k + 1) 0 = (b ++ [128] ++ List.replicate k 0) ++ [0] := by rw [List.replicate_succ', ← List.append_assoc]
      have HREP := Lib.hid hrep
      have hxl : (b ++ [128] ++ List.replicate k (0 : UInt8)).length = m := by simp; omega
      have HXL := Lib.hid hxl
      clear hmv hrep hxl
      go_wp2_with (at_builtin; refine wpList_append_byte rfl _ _ 23 rfl Try.underlying23 Try.info5 g _ (b ++ [128] ++ List.replicate k 0) rfl HO.out 0 0 rfl rfl (by rw [HXL.out]; omega) ?_; rw [HXL.out]; intro g4 c4 w4 ho4 hg4 hl4 hc4 hm4 hO4)
      refine ⟨⟨k + 1, g4, _, c4, rfl, by have := HM.out; omega, by omega, by rw [HREP.out]; exact ho4, by omega, hl4, app_below HB.out hg hsz hO4⟩, ?_⟩
      show b.length + 100 - (m + 1) < b.length + 100 - m
      omega
    · obtain rfl : k = padZ b.length := by omega
      have hend := padZ_end b.length
      have he2 : (m : Int) % 64 = 56 := by omega
      have hlb : (b.length : Int) ≤ 140737488355328 := by omega
      clear hmv hend
      go_wp2
      obtain ⟨X, hX⟩ : ∃ X, X = UInt64.ofNat (8 * b.length) := ⟨_, rfl⟩
      have hXn : X.toNat = 8 * b.length := by rw [hX, UInt64.toNat_ofNat', Nat.mod_eq_of_lt (by omega)]
      have hXD : Value.int .u64 (8 * (b.length : Int)) = D X := by unfold D; rw [hXn]; congr 1
      rw [hXD]
      have HX := Lib.hid hXn
      have cv := cvD8
      clear hX hXn hXD he2
      go_loopw [3, 5] (fun v3 v5 wr => PadB w b v3 v5 wr) (fun _ v5 _ => (intOf v5 + 1).toNat)
      case atStart => exact ⟨8, 7, g, m, c3, [], rfl, rfl, by omega, by omega, by have := HM.out; simp; omega, by simpa using HO.out, by simp, hg, hgl, HB.out⟩
      case round =>
        clear hgl hg hsz hm0 hmb hmi hkz hk
        obtain ⟨i, z, g, m, c, dn, rfl, rfl, hi, hz, hml, hO, hdn, hg, hgl, hB⟩ := hrel
        have hXL : (b ++ [128] ++ List.replicate (padZ b.length) (0 : UInt8)).length ≤ b.length + 64 := by simp; omega
        have hdl : dn.length + i = 8 := by
          have := congrArg List.length hdn
          rw [List.length_append, be_length, be_length] at this
          exact this
        have HO2 := Lib.hid (And.intro hO (And.intro hdn (And.intro hB hml)))
        have hm1 : m ≤ b.length + 100 := by rw [← hml, List.length_append]; omega
        have hszr := hB.size
        have HDL := Lib.hid hdl
        clear hO hdn hB hml hdl hXL
        by_cases h0 : i = 0
        · subst h0
          obtain rfl : z = -1 := by omega
          clear hz hi
          obtain ⟨c', hc'⟩ := And.intro HO2.out.1.form HDL.out
          obtain ⟨p5, c5, hv5, y1, y2, y3, y4, y5⟩ := HO2.out.1.form
          have e5 : c5 = c := by simp at hv5; exact hv5.2.2.symm
          subst e5
          have HV := Lib.hid (And.intro y1 (And.intro y2 hv5))
          clear hv5 y3 y4 y5 y1 y2
          clear c' hc'
          go_wp2
          go_ret
          have hd : dn = be (8 * b.length) 8 := by have := HO2.out.2.1; simpa [be] using this
          subst hd
          exact ⟨g, m, c5, rfl, HO2.out.2.2.2, HO2.out.1, hg, hgl, by rw [← HO2.out.2.2.2]; exact HV.out.1, HV.out.2.1, HO2.out.2.2.1⟩
        · obtain ⟨j, rfl⟩ : ∃ j, i = j + 1 := ⟨i - 1, by omega⟩
          obtain rfl : z = (j : Int) := by omega
          have hj0 : (0 : Int) ≤ (j : Int) := by omega
          have hj7 : (j : Int) ≤ 7 := by omega
          have hsh := fun w => D_shr (P := Try.prog) (w := w) (t := 49) X .i64 (8 * (j : Int)) (by omega)
          have ht8 : (8 * (j : Int)).toNat = 8 * j := by omega
          rw [ht8] at hsh
          clear hz
          go_wp2_with (at_builtin; refine wpList_append_byte rfl _ _ 23 rfl Try.underlying23 Try.info5 g _ (b ++ [128] ++ List.replicate (padZ b.length) 0 ++ dn) rfl HO2.out.1 _ (cut8 (shr64 X (8 * j))) rfl rfl (by rw [HO2.out.2.2.2]; omega) ?_; rw [HO2.out.2.2.2]; intro g4 c4 w4 ho4 hg4 hl4 hc4 hm4 hO4)
          have hbyte : cut8 (shr64 X (8 * j)) = UInt8.ofNat (8 * b.length / 256 ^ j) := by
            unfold cut8 shr64
            rw [HX.out, UInt64.toNat_ofNat', Nat.mod_eq_of_lt (Nat.lt_of_le_of_lt (Nat.div_le_self _ _) (by omega)), Nat.pow_mul]
          have hdn2 : (dn ++ [cut8 (shr64 X (8 * j))]) ++ be (8 * b.length) j = be (8 * b.length) 8 := by
            rw [hbyte, ← HO2.out.2.1, List.append_assoc]
            rfl
          refine ⟨⟨j, (j : Int) - 1, g4, m + 1, c4, dn ++ [cut8 (shr64 X (8 * j))], rfl, rfl, by omega, rfl, by rw [← List.append_assoc, List.length_append, HO2.out.2.2.2]; rfl, by rw [← List.append_assoc]; exact ho4, hdn2, by omega, hl4, app_below HO2.out.2.2.1 hg hszr hO4⟩, by simp [intOf]⟩
end Go.Proofs.Ytegmimnhkohaoaa
/-
  The contract of sha.spread. Condition: at least 64 bytes.
-/
namespace Go.Proofs.Ytegmimnhkohaoaa
open Go.RowKit Go.Kx
set_option linter.unusedVariables false
set_option linter.unusedSimpArgs false
attribute [local go_sem ↓] U_add U_mul U_xor U_or U_and U_not U_shl U_shr U_guard1 U_guard2 U_store exec_stU
attribute [local go_sem] st1_U st1_i

/-- An array of numbers of 32 bits in a block of its own. -/
def ArrU (w : World) (r t : Nat) (xs : List UInt32) : Prop := w.heap[r]? = some (.cells (xs.map U).toArray t (0, 0))
theorem ArrU.c {w : World} {r t : Nat} {xs : List UInt32} (h : ArrU w r t xs) (i : Nat) (hi : i < xs.length) : w.cell? ⟨r, i, none⟩ = some (U (xs[i]'hi)) := by
  unfold ArrU at h
  simp [World.cell?, h, hi]
theorem ArrU.fr {w : World} {r t : Nat} {xs : List UInt32} (h : ArrU w r t xs) (o : Nat) : w.frozen? ⟨r, o, none⟩ = false := by unfold ArrU at h; simp [World.frozen?, h]
theorem ArrU.lt {w : World} {r t : Nat} {xs : List UInt32} (h : ArrU w r t xs) : r < w.heap.size := (Array.getElem?_eq_some_iff.1 h).1
theorem ArrU.only {w w' : World} {q : Nat → Prop} {r t : Nat} {xs : List UInt32} (h : ArrU w r t xs) (ho : Only q w w') (hd : ¬ q r) : ArrU w' r t xs := (ho.block r h.lt hd).trans h
theorem ArrU.below {w w' : World} {r t : Nat} {xs : List UInt32} (h : ArrU w r t xs) (ho : Below w.heap.size w w') : ArrU w' r t xs := (ho.block r h.lt).trans h
theorem ArrU.new (w : World) (t : Nat) (xs : List UInt32) : ArrU (w.alloc (.cells (xs.map U).toArray t)) w.heap.size t xs := heap_alloc_new w _
theorem ArrU.set {w : World} {r t : Nat} {xs : List UInt32} (h : ArrU w r t xs) (i : Nat) (x : UInt32) : ArrU (w.setCell ⟨r, i, none⟩ (U x)) r t (xs.set i x) := by
  unfold ArrU at *
  simp [World.setCell, Array.getElem?_modify, h, List.map_set]

theorem arr_ones (xs : List UInt32) : ((xs.map U).toArray).all (fun v => v.oneCell') = true := by
  rw [Array.all_eq_true_iff_forall_mem]
  intro v hv
  simp only [List.mem_toArray, List.mem_map] at hv
  obtain ⟨x, _, rfl⟩ := hv
  rfl
theorem ArrU.setRow {w : World} {r t : Nat} {xs : List UInt32} (h : ArrU w r t xs) (ys : List UInt32) : ArrU (w.setRow r (ys.map U).toArray) r t ys := by
  unfold ArrU at *
  simp [World.setRow, Array.getElem?_modify, h]
theorem only_setRow (w : World) (r : Nat) (C : Array Value) : Only (· = r) w (w.setRow r C) :=
  ⟨rfl, rfl, rfl, by simp, fun k _ hk => by simp only [World.setRow, Array.getElem?_modify]; rw [if_neg (by omega)]⟩
/-- A whole array is read, is written. -/
theorem ld_arrU {P : Program} {ops : Array Oper} {rest : List Oper} {op : Oper} {a : Act} {w : World} {Q : Exit → Act → World → Prop} (hgd : op.guard = none) (ty : TypeId) (x : Operand) (ho : op.op = .load ty x)
    (g : Nat) (hx : a.eval x = .pointer (some ⟨g, 0, none⟩)) (t : TypeId) (xs : List UInt32) (hg : ArrU w g t xs) (n e : Nat) (hu : P.underlying ty = some (.array n e)) (hi : (P.info? ty).map (·.size) = some xs.length)
    (h : wpList P ops Q rest (a.put op.dst (.agg (xs.map U).toArray)) w) : wpList P ops Q (op :: rest) a w :=
  wpList_load_row hgd ty x ho g hx t _ (0, 0) (.array n e) hg hu rfl (by rw [hi]; simp) h
theorem st_arrU {P : Program} {ops : Array Oper} {rest : List Oper} {op : Oper} {a : Act} {w : World} {Q : Exit → Act → World → Prop} (hgd : op.guard = none) (ty : TypeId) (x y : Operand) (ho : op.op = .store ty x y)
    (g : Nat) (xs : List UInt32) (hx : a.eval x = .pointer (some ⟨g, 0, none⟩)) (hy : a.eval y = .agg (xs.map U).toArray) (t : TypeId) (old : List UInt32) (hg : ArrU w g t old) (hi : (P.info? ty).map (·.size) = some xs.length) (hl : old.length = xs.length)
    (h : ∀ w', ArrU w' g t xs → Only (· = g) w w' → wpList P ops Q rest (a.put op.dst undef) w') : wpList P ops Q (op :: rest) a w :=
  wpList_store_row hgd ty x y ho g _ hx hy t _ hg (by rw [hi]; simp) (by simpa using hl) (arr_ones xs) (h _ (hg.setRow xs) (only_setRow w g _))

/-- A byte is put into its word. -/
def put8 (b : List UInt8) (xs : List UInt32) (i : Nat) : List UInt32 := xs.set (i / 4) (shl32 (xs.getD (i / 4) 0) 8 ||| (b.getD i 0).toUInt32)
def words (b : List UInt8) : Nat → List UInt32
  | 0 => List.replicate 64 0
  | i + 1 => put8 b (words b i) i
theorem words_len (b : List UInt8) (i : Nat) : (words b i).length = 64 := by
  induction i with
  | zero => simp [words]
  | succ i ih => simp only [words, put8, List.length_set, ih]
/-- A word that follows. -/
def nextW (a b c d : UInt32) : UInt32 := a + b + (rotr c 7 ^^^ rotr c 18 ^^^ shr32 c 3) + (rotr d 17 ^^^ rotr d 19 ^^^ shr32 d 10)
def sch (xs : List UInt32) (i : Nat) : List UInt32 := xs.set i (nextW (xs.getD (i - 16) 0) (xs.getD (i - 7) 0) (xs.getD (i - 15) 0) (xs.getD (i - 2) 0))
def schedK (b : List UInt8) : Nat → List UInt32
  | 0 => words b 64
  | k + 1 => sch (schedK b k) (16 + k)
theorem schedK_len (b : List UInt8) (i : Nat) : (schedK b i).length = 64 := by
  induction i with
  | zero => exact words_len b 64
  | succ i ih => simp only [schedK, sch, List.length_set, ih]
def sched (b : List UInt8) : List UInt32 := schedK b 48

theorem cvB32 (x : UInt8) (w : World) : (convert 5 142 (.int .u8 (x.toNat : Int))).run Try.prog w = .ok (U x.toUInt32) w := by
  have hk : Try.prog.intKind 142 = .u32 := by kernel_rfl
  have h2 := run_convert_int (P := Try.prog) (w := w) 5 142 .u8 (x.toNat : Int) (by rw [Try.underlying5]; rfl) (by rw [hk]; exact Try.underlying142)
  have h : IntKind.u32.wrap (x.toNat : Int) = (x.toUInt32.toNat : Int) := by
    have h8 := x.toNat_lt
    rw [wrap_u32, UInt8.toNat_toUInt32, Nat.mod_eq_of_lt (by omega)]
  rw [hk, h] at h2
  exact h2

theorem rotr_k (x : UInt32) (k : Int) (n : Nat) (w : World) (hk : k = (n : Int)) (h : 1 ≤ n ∧ n ≤ 31) : Calls Try.prog 118 #[U x, .int .i64 k] w fun e w' => e = .returned (U (rotr x n)) ∧ w' = w := by
  subst hk
  exact (rotr_c x n w h).mono fun _ _ h => ⟨h.1, h.2.symm⟩
theorem below_drewN' {B : Nat} {a w : World} (h : Below B a w) (n : Nat) : Below B a (w.drewN n) := h.trans ⟨rfl, rfl, rfl, Nat.le_refl _, fun _ _ => rfl⟩
theorem Try.infoA64 : (Try.prog.info? 147).map (·.size) = some 64 := by kernel_rfl
def SpRel (w : World) (b : List UInt8) (v12 : Value) (wr : World) : Prop := ∃ i : Nat, v12 = .int .i64 (i : Int) ∧ i ≤ 64 ∧ ArrU wr (w.heap.size + 1) 147 (words b i) ∧ ArrU wr w.heap.size 147 (List.replicate 64 0) ∧ Below w.heap.size w wr
def SpRel2 (w : World) (b : List UInt8) (v6 : Value) (wr : World) : Prop := ∃ i : Nat, v6 = .int .i64 (16 + (i : Int)) ∧ i ≤ 48 ∧ ArrU wr (w.heap.size + 1) 147 (schedK b i) ∧ ArrU wr w.heap.size 147 (List.replicate 64 0) ∧ Below w.heap.size w wr
def SpR (w : World) (b : List UInt8) (e : Ending) (w' : World) : Prop := e = .returned (.agg ((sched b).map U).toArray) ∧ Below w.heap.size w w'

set_option maxHeartbeats 4000000 in
theorem spread_c (S : Nat → Prop) (p : Option Addr) (n c : Nat) (b : List UInt8) (w : World) (hR : Rd w S p b) (hn : b.length = n) (h64 : 64 ≤ n) (hc : n ≤ c) :
    Calls Try.prog 117 #[.slice p n c] w (SpR w b) := by
  subst hn
  have cv := cvB32
  obtain ⟨g, o, rfl, hS, hgl, hcell⟩ := hR.at (by omega)
  have HC := Lib.hid hcell
  clear hcell hR
  have hA : ∀ W, W = (w.alloc (.cells ((List.replicate 64 (0 : UInt32)).map U).toArray 147)).alloc (.cells ((List.replicate 64 (0 : UInt32)).map U).toArray 147) → SpRel w b (.int .i64 0) W := by
    rintro W rfl
    refine ⟨0, rfl, by omega, ?_, (ArrU.new w _ _).below ((Below.refl _ _).alloc (Nat.le_refl _) _), ((Below.refl _ _).alloc (Nat.le_refl _) _).alloc (by simp) _⟩
    have := ArrU.new (w.alloc (.cells ((List.replicate 64 (0 : UInt32)).map U).toArray 147)) 147 (List.replicate 64 0)
    simpa only [World.size_alloc, words] using this
  have HA := Lib.hid hA
  clear hA
  have hb64 : 64 ≤ (b.length : Int) := by omega
  go_enter Try.func117, Try.ntmps117
  go_wp2
  go_loopw [12] (fun v12 wr => SpRel w b v12 wr) (fun v12 _ => (64 - intOf v12).toNat)
  case atStart => exact HA.out _ rfl
  case round =>
    obtain ⟨i, rfl, hi, hA1, hA0, hB⟩ := hrel
    have HB := Lib.hid (And.intro hA1 (And.intro hA0 hB))
    by_cases hlt : i < 64
    · have hl := words_len b i
      have hq : i / 4 < 64 := by omega
      have c1 := hA1.c (i / 4) (by rw [hl]; exact hq)
      have f1 := hA1.fr (i / 4)
      have hgw : g < w.heap.size := hgl
      have hcb := (hB.cell (p := ⟨g, o + i, none⟩) hgl).trans (HC.out i (by omega))
      obtain ⟨B, hBd⟩ : ∃ B : UInt8, B = b[i]'(by omega) := ⟨_, rfl⟩
      rw [← hBd] at hcb
      obtain ⟨X, hX⟩ : ∃ X, X = (words b i)[i / 4]'(by rw [hl]; exact hq) := ⟨_, rfl⟩
      rw [← hX] at c1
      have hst : words b (i + 1) = (words b i).set (i / 4) (shl32 X 8 ||| B.toUInt32) := by
        show put8 b (words b i) i = _
        unfold put8
        rw [hX, hBd]
        simp only [List.getD_eq_getElem?_getD, List.getElem?_eq_getElem (by rw [hl]; exact hq : i / 4 < (words b i).length), List.getElem?_eq_getElem (by omega : i < b.length), Option.getD_some]
      have HST := Lib.hid hst
      have hti : ((i : Int) / 4).toNat = i / 4 := by omega
      have hlI : (i : Int) < 64 := by omega
      clear hst hBd hX hl hA1 hA0 hB
      go_wp2
      refine ⟨⟨i + 1, by simp, by omega, by rw [HST.out]; exact HB.out.1.set _ _, HB.out.2.1.only ((Only.refl (fun k => k = w.heap.size + 1) wr).setCell _ _ (.inl rfl)) (by omega), HB.out.2.2.setCell (by simp) _⟩, by simp [intOf]; omega⟩
    · have h64i : i = 64 := by omega
      have hge : ¬ (i : Int) < 64 := by omega
      rw [h64i] at hA1
      clear hlt hi h64i HB
      go_wp2
      clear hge
      clear HA
      go_loopw [6] (fun v6 wr => SpRel2 w b v6 wr) (fun v6 _ => (64 - intOf v6).toNat)
      case atStart => exact ⟨0, rfl, by omega, hA1, hA0, hB⟩
      case round =>
        clear hA1 hA0 hB
        obtain ⟨i, rfl, hi, hA1, hA0, hB⟩ := hrel
        have HB := Lib.hid (And.intro hA1 (And.intro hA0 hB))
        by_cases hlt : i < 48
        · have hl := schedK_len b i
          have c1 := hA1.c i (by omega)
          have c2 := hA1.c (i + 9) (by omega)
          have c3 := hA1.c (i + 1) (by omega)
          have c4 := hA1.c (i + 14) (by omega)
          have f1 := hA1.fr (16 + i)
          have c5 := hA1.c (16 + i) (by omega)
          obtain ⟨x1, h1⟩ : ∃ x, x = (schedK b i)[i]'(by omega) := ⟨_, rfl⟩
          obtain ⟨x2, h2⟩ : ∃ x, x = (schedK b i)[i + 9]'(by omega) := ⟨_, rfl⟩
          obtain ⟨x3, h3⟩ : ∃ x, x = (schedK b i)[i + 1]'(by omega) := ⟨_, rfl⟩
          obtain ⟨x4, h4⟩ : ∃ x, x = (schedK b i)[i + 14]'(by omega) := ⟨_, rfl⟩
          obtain ⟨x5, h5⟩ : ∃ x, x = (schedK b i)[16 + i]'(by omega) := ⟨_, rfl⟩
          rw [← h1] at c1
          rw [← h2] at c2
          rw [← h3] at c3
          rw [← h4] at c4
          rw [← h5] at c5
          have hst : schedK b (i + 1) = (schedK b i).set (16 + i) (nextW x1 x2 x3 x4) := by
            show sch (schedK b i) (16 + i) = _
            unfold sch
            rw [show 16 + i - 16 = i by omega, show 16 + i - 7 = i + 9 by omega, show 16 + i - 15 = i + 1 by omega, show 16 + i - 2 = i + 14 by omega, h1, h2, h3, h4]
            simp only [List.getD_eq_getElem?_getD, List.getElem?_eq_getElem (by omega : i < (schedK b i).length), List.getElem?_eq_getElem (by omega : i + 9 < (schedK b i).length), List.getElem?_eq_getElem (by omega : i + 1 < (schedK b i).length), List.getElem?_eq_getElem (by omega : i + 14 < (schedK b i).length), Option.getD_some]
          have HST := Lib.hid hst
          have hlI : 16 + (i : Int) < 64 := by omega
          have t1 : (16 + (i : Int) - 16).toNat = i := by omega
          have t2 : (16 + (i : Int) - 7).toNat = i + 9 := by omega
          have t3 : (16 + (i : Int) - 15).toNat = i + 1 := by omega
          have t4 : (16 + (i : Int) - 2).toNat = i + 14 := by omega
          have t5 : (16 + (i : Int)).toNat = 16 + i := by omega
          clear hst h1 h2 h3 h4 h5 hl hA1 hA0 hB
          go_upto_region 10 with (fail)
          go_quiet (fail)
          go_upto_region 11 with (fail)
          have s1 : IntKind.i64.wrap (16 + (i : Int) - 16) = (i : Int) := by rw [IntWalk.i64_in _ ⟨by omega, by omega⟩]; omega
          have s2 : IntKind.i64.wrap (16 + (i : Int) - 7) = (i : Int) + 9 := by rw [IntWalk.i64_in _ ⟨by omega, by omega⟩]; omega
          have b1 : (0 : Int) ≤ (i : Int) := by omega
          have b2 : (0 : Int) ≤ (i : Int) + 9 := by omega
          have b3 : (i : Int) < 64 := by omega
          have b4 : (i : Int) + 9 < 64 := by omega
          have b5 : ((i : Int) + 9).toNat = i + 9 := by omega
          have b6 : (0 : Int) ≤ 16 + (i : Int) := by omega
          have n1 : (⟨w.heap.size + 1, 16 + i, none⟩ : Addr) ≠ ⟨w.heap.size + 1, i, none⟩ := by intro h; injection h with _ h _; omega
          have n2 : (⟨w.heap.size + 1, 16 + i, none⟩ : Addr) ≠ ⟨w.heap.size + 1, i + 9, none⟩ := by intro h; injection h with _ h _; omega
          go_region_held3 (fun w' => w'.cell? ⟨w.heap.size + 1, i, none⟩ = some (U x1) ∧ w'.cell? ⟨w.heap.size + 1, i + 9, none⟩ = some (U x2)) (first | exact ⟨c1, c2⟩ | exact ⟨(World.cell?_setCell_other _ _ _ _ n1).trans c1, (World.cell?_setCell_other _ _ _ _ n2).trans c2⟩) ((go_at_call 118; (first | (with_reducible refine (rotr_k _ 7 7 _ rfl (by omega)).mono ?_) | (with_reducible refine (rotr_k _ 18 18 _ rfl (by omega)).mono ?_) | (with_reducible refine (rotr_k _ 17 17 _ rfl (by omega)).mono ?_) | (with_reducible refine (rotr_k _ 19 19 _ rfl (by omega)).mono ?_)); rintro e w' ⟨rfl, rfl⟩))
          all_goals go_wp2
          clear s1 s2
          refine ⟨⟨i + 1, by congr 1, by omega, ?_, ?_, ?_⟩, by simp [intOf]; omega⟩
          · rw [HST.out]
            exact (HB.out.1.only (Only.drewN _ (Only.refl (fun _ => False) _)) (fun h => h)).set _ _
          · exact HB.out.2.1.only ((Only.drewN _ (Only.refl (fun k => k = w.heap.size + 1) wr)).setCell _ _ (.inl rfl)) (by omega)
          · exact (below_drewN' HB.out.2.2 _).setCell (by simp) _
        · obtain rfl : i = 48 := by omega
          have hi2 : ¬ (16 : Int) + 48 < 64 := by omega
          go_upto_region 12 with (fail)
          go_wp2_with (first
            | (refine ld_arrU rfl 147 _ rfl _ rfl _ _ HB.out.1 _ _ Try.underlying147 (by rw [schedK_len]; exact Try.infoA64) ?_)
            | (refine st_arrU rfl 147 _ _ rfl w.heap.size (schedK b 48) rfl rfl _ _ HB.out.2.1 (by rw [schedK_len]; exact Try.infoA64) (by rw [schedK_len]; simp) ?_; intro w5 hA5 hO5))
          refine bodyPost_ret (v := .agg ((schedK b 48).map U).toArray) (results_cell_row (P := Try.prog) Try.results117 _ _ w.heap.size _ _ _ _ rfl hA5 Try.underlying147 rfl (by rw [Try.infoA64]; simp [schedK_len])) rfl (And.intro rfl ?_)
          exact below_only HB.out.2.2 HB.out.2.2.size hO5 (by intro k hk e; omega)
end Go.Proofs.Ytegmimnhkohaoaa
/-
  The contract of sha.mix. Condition: at least 64 bytes, 64 constants.
-/
namespace Go.Proofs.Ytegmimnhkohaoaa
open Go.RowKit Go.Kx
set_option linter.unusedVariables false
set_option linter.unusedSimpArgs false
attribute [local go_sem ↓] U_add U_mul U_xor U_or U_and U_not U_shl U_shr U_guard1 U_guard2 U_store exec_stU
attribute [local go_sem] st1_U st1_i

theorem sched_len (b : List UInt8) : (sched b).length = 64 := by unfold sched; rw [schedK_len]
/-- One round. -/
def rnd (v : List UInt32) (k w : UInt32) : List UInt32 :=
  match v with
  | [a, b, c, d, e, f, g, h] =>
    let t := h + (rotr e 6 ^^^ rotr e 11 ^^^ rotr e 25) + (e &&& f ||| ~~~e &&& g) + k + w
    let u := (rotr a 2 ^^^ rotr a 13 ^^^ rotr a 22) + (a &&& b ||| a &&& c ||| b &&& c)
    [t + u, a, b, c, d + t, e, f, g]
  | _ => List.replicate 8 0
theorem rnd_len (v : List UInt32) (k w : UInt32) : (rnd v k w).length = 8 := by
  unfold rnd
  split <;> simp
def rnds (W K s : List UInt32) : Nat → List UInt32
  | 0 => s
  | i + 1 => rnd (rnds W K s i) (K.getD i 0) (W.getD i 0)
theorem rnds_len (W K s : List UInt32) (hs : s.length = 8) (i : Nat) : (rnds W K s i).length = 8 := by
  cases i with
  | zero => exact hs
  | succ i => exact rnd_len _ _ _
/-- The first so many are added. -/
def addK (s v : List UInt32) : Nat → List UInt32
  | 0 => s
  | i + 1 => (addK s v i).set i ((addK s v i).getD i 0 + v.getD i 0)
theorem addK_len (s v : List UInt32) (i : Nat) : (addK s v i).length = s.length := by
  induction i with
  | zero => rfl
  | succ i ih => simp only [addK, List.length_set, ih]
def mixL (s b K : List UInt32) : List UInt32 := addK s (rnds b K s 64) 8
theorem list8 {α : Type} (l : List α) (h : l.length = 8) : ∃ a b c d e f g i, l = [a, b, c, d, e, f, g, i] := by
  match l, h with
  | [a, b, c, d, e, f, g, i], _ => exact ⟨a, b, c, d, e, f, g, i, rfl⟩

theorem rotr_t (x : UInt32) (k : Int) (w : World) (h : 1 ≤ k ∧ k ≤ 31) : Calls Try.prog 118 #[U x, .int .i64 k] w fun e w' => e = .returned (U (rotr x k.toNat)) ∧ w' = w :=
  rotr_k x k k.toNat w (by omega) (by omega)
/-- Numbers of 32 bits that lie somewhere. -/
def RdU (w : World) (p : Option Addr) (ks : List UInt32) : Prop := ∀ i (h : i < ks.length), ∃ g o, p = some ⟨g, o, none⟩ ∧ w.cell? ⟨g, o + i, none⟩ = some (U ks[i])
theorem RdU.below {w w' : World} {p : Option Addr} {qs : List UInt32} (h : RdU w p qs) (hb : Below w.heap.size w w') : RdU w' p qs := by
  intro i hi
  obtain ⟨g, o, h1, h2⟩ := h i hi
  exact ⟨g, o, h1, (hb.cell (p := ⟨g, o + i, none⟩) (World.block_lt_of_cell? _ _ h2)).trans h2⟩

/-- A cell of an array by value. -/
theorem index_agg (t e n : Nat) (hu : Try.prog.underlying t = some (.array n e)) (hs : (Try.prog.info? e).map (·.size) = some 1) (he : Try.prog.underlying e = some (.int .u32)) (xs : List UInt32) (hx : xs.length = n) (i : Nat) (hi : i < xs.length) (w : World) :
    (Instr.index t (.agg (xs.map U).toArray) (.int .i64 (i : Int))).run Try.prog w = .ok (U (xs[i]'hi)) w := by
  obtain ⟨ti, h1, h2⟩ : ∃ ti, Try.prog.info? e = some ti ∧ ti.size = 1 := by simpa using hs
  subst hx
  have h3 : (i : Int) < (xs.length : Int) := by omega
  have h4 : (0 : Int) ≤ (i : Int) := by omega
  simp [Instr.index, asIntOf, run_underlying hu, run_underlying he, sizeOf, typeInfo, h1, h2, h3, part, isAgg, hi]

theorem Try.infoA8 : (Try.prog.info? 143).map (·.size) = some 8 := by kernel_rfl
def MixR (w : World) (X : List UInt32) (e : Ending) (w' : World) : Prop := e = .returned (.agg (X.map U).toArray) ∧ Below w.heap.size w w'

def MxRel (w : World) (W K s : List UInt32) (v19 : Value) (wr : World) : Prop := ∃ i : Nat, v19 = .int .i64 (i : Int) ∧ i ≤ 64 ∧ ArrU wr w.heap.size 143 s ∧ ArrU wr (w.heap.size + 1) 143 (List.replicate 8 0) ∧ ArrU wr (w.heap.size + 1 + 1) 143 (rnds W K s i) ∧ Below w.heap.size w wr
def MxRel2 (w : World) (s v : List UInt32) (v94 : Value) (wr : World) : Prop := ∃ i : Nat, v94 = .int .i64 (i : Int) ∧ i ≤ 8 ∧ ArrU wr w.heap.size 143 (addK s v i) ∧ ArrU wr (w.heap.size + 1) 143 (List.replicate 8 0) ∧ Below w.heap.size w wr

set_option maxHeartbeats 8000000 in
set_option maxRecDepth 100000 in
theorem mix_c (S : Nat → Prop) (p : Option Addr) (n c : Nat) (b : List UInt8) (q : Option Addr) (nk ck : Nat) (K s : List UInt32) (w : World) (hR : Rd w S p b) (hn : b.length = n) (h64 : 64 ≤ n) (hc : n ≤ c)
    (hs : s.length = 8) (hK : RdU w q K) (hKl : K.length = nk) (hk64 : nk = 64) :
    Calls Try.prog 108 #[.agg (s.map U).toArray, .slice p n c, .slice q nk ck] w (MixR w (mixL s (sched b) K)) := by
  subst hk64
  have HK := Lib.hid (And.intro hK hKl)
  have HR := Lib.hid (And.intro hR (And.intro hn hc))
  obtain ⟨s0, s1, s2, s3, s4, s5, s6, s7, rfl⟩ := list8 s hs
  clear hK hKl hR hn hc
  obtain ⟨SB, hSB⟩ : ∃ x, x = sched b := ⟨_, rfl⟩
  have HSB := Lib.hid (And.intro hSB (show SB.length = 64 by rw [hSB]; exact sched_len b))
  rw [← hSB]
  have hA : ∀ W1 w1, W1 = ((w.alloc (.cells #[U s0, U s1, U s2, U s3, U s4, U s5, U s6, U s7] 143)).alloc (.cells #[.int .u32 0, .int .u32 0, .int .u32 0, .int .u32 0, .int .u32 0, .int .u32 0, .int .u32 0, .int .u32 0] 143)).alloc (.cells #[U s0, U s1, U s2, U s3, U s4, U s5, U s6, U s7] 143) →
      Below W1.heap.size W1 w1 → MxRel w SB K [s0, s1, s2, s3, s4, s5, s6, s7] (.int .i64 0) w1 := by
    rintro W1 w1 rfl hb
    have r1 := ArrU.new w 143 [s0, s1, s2, s3, s4, s5, s6, s7]
    have r2 : ArrU _ _ 143 (List.replicate 8 0) := ArrU.new (w.alloc (.cells #[U s0, U s1, U s2, U s3, U s4, U s5, U s6, U s7] 143)) 143 (List.replicate 8 0)
    have r3 := ArrU.new ((w.alloc (.cells #[U s0, U s1, U s2, U s3, U s4, U s5, U s6, U s7] 143)).alloc (.cells #[.int .u32 0, .int .u32 0, .int .u32 0, .int .u32 0, .int .u32 0, .int .u32 0, .int .u32 0, .int .u32 0] 143)) 143 [s0, s1, s2, s3, s4, s5, s6, s7]
    simp only [World.size_alloc] at r2 r3
    have z1 : ∀ (u : World) (o : Obj), Below u.heap.size u (u.alloc o) := fun u o => (Below.refl _ _).alloc (Nat.le_refl _) o
    exact ⟨0, rfl, by omega, ((r1.below (z1 _ _)).below (z1 _ _)).below hb, (r2.below (z1 _ _)).below hb, r3.below hb, (((z1 w _).alloc (by simp) _).alloc (by simp; omega) _).trans (hb.mono (by simp; omega))⟩
  have HA := Lib.hid hA
  clear hA
  have sp : ∀ (wx : World), Below w.heap.size w wx → Calls Try.prog 117 #[.slice p n c] wx (fun e w' => e = .returned (.agg (SB.map U).toArray) ∧ Below wx.heap.size wx w') := fun wx hb =>
    (spread_c S p n c b wx (HR.out.1.below hb) HR.out.2.1 h64 HR.out.2.2).mono fun e w' h => by rw [hSB]; exact h
  have SP := Lib.hid sp
  clear sp hSB
  simp only [List.map_cons, List.map_nil]
  go_enter Try.func108, Try.ntmps108
  go_upto_region 2 with (fail)
  have hb0 : ∀ (u : World) (o : Obj), Below u.heap.size u (u.alloc o) := fun u o => (Below.refl _ _).alloc (Nat.le_refl _) o
  go_wp2_with (go_at_call 117; refine (SP.out _ (((hb0 w _).alloc (by simp) _).alloc (by simp; omega) _)).mono ?_; rintro e w1 ⟨rfl, hB1⟩)
  have HM := Lib.hid (HA.out _ w1 rfl hB1)
  clear hB1 HA
  go_loopw [19] (fun v19 wr => MxRel w SB K [s0, s1, s2, s3, s4, s5, s6, s7] v19 wr) (fun v19 _ => (64 - intOf v19).toNat)
  case atStart => exact HM.out
  case round =>
    clear HM
    obtain ⟨i, rfl, hi, hA3, hA6, hA7, hB⟩ := hrel
    by_cases hlt : i < 64
    · obtain ⟨a0, a1, a2, a3, a4, a5, a6, a7, hv⟩ := list8 _ (rnds_len SB K [s0, s1, s2, s3, s4, s5, s6, s7] rfl i)
      rw [hv] at hA7
      have c0 := hA7.c 0 (by simp)
      have c1 := hA7.c 1 (by simp)
      have c2 := hA7.c 2 (by simp)
      have c3 := hA7.c 3 (by simp)
      have c4 := hA7.c 4 (by simp)
      have c5 := hA7.c 5 (by simp)
      have c6 := hA7.c 6 (by simp)
      have c7 := hA7.c 7 (by simp)
      have f0 := hA7.fr 0
      have f4 := hA7.fr 4
      simp only [List.getElem_cons_zero, List.getElem_cons_succ] at c0 c1 c2 c3 c4 c5 c6 c7
      obtain ⟨gk, ok, rfl, ck⟩ := (HK.out.1.below hB) i (by rw [HK.out.2]; exact hlt)
      have hsl : SB.length = 64 := HSB.out.2
      have ix := fun wx => index_agg 147 142 64 Try.underlying147 (by kernel_rfl) Try.underlying142 SB hsl i (by rw [hsl]; exact hlt) wx
      obtain ⟨kk, hkk⟩ : ∃ x, x = K[i]'(by rw [HK.out.2]; exact hlt) := ⟨_, rfl⟩
      obtain ⟨ww, hww⟩ : ∃ x, x = SB[i]'(by rw [hsl]; exact hlt) := ⟨_, rfl⟩
      rw [← hkk] at ck
      rw [← hww] at ix
      have hst : rnds SB K [s0, s1, s2, s3, s4, s5, s6, s7] (i + 1) = rnd [a0, a1, a2, a3, a4, a5, a6, a7] kk ww := by
        show rnd (rnds SB K _ i) _ _ = _
        rw [hv, hkk, hww]
        simp only [List.getD_eq_getElem?_getD, List.getElem?_eq_getElem (by rw [HK.out.2]; exact hlt : i < K.length), List.getElem?_eq_getElem (by rw [hsl]; exact hlt : i < SB.length), Option.getD_some]
      have HST := Lib.hid hst
      have HB := Lib.hid (And.intro hA3 (And.intro hA6 (And.intro hA7 hB)))
      have hlI : (i : Int) < 64 := by omega
      have hi0 : (0 : Int) ≤ (i : Int) := by omega
      clear hst hv hkk hww hsl hA3 hA6 hA7 hB
      go_upto_region 5 with (fail)
      go_quiet (fail)
      go_upto_region 6 with (fail)
      go_quiet ((go_at_call 118; exact quiet_on (rotr_t _ _ _ (by omega))))
      go_upto_region 7 with (fail)
      go_quiet ((go_at_call 118; exact quiet_on (rotr_t _ _ _ (by omega))))
      go_upto_region 8 with (fail)
      have hsrc : ∀ (j : Nat) (v : Value), [U a0, U a1, U a2, U a3, U a4, U a5, U a6][j]? = some v → wr.cell? ((⟨w.heap.size + 1 + 1, 0, none⟩ : Addr).add j) = some v := by
        intro j v hv
        have hj : j < 7 := by have := (List.getElem?_eq_some_iff.1 hv).1; simpa using this
        have e : (⟨w.heap.size + 1 + 1, 0, none⟩ : Addr).add j = ⟨w.heap.size + 1 + 1, j, none⟩ := by unfold Addr.add; split <;> simp_all
        rw [e]
        have hc : j = 0 ∨ j = 1 ∨ j = 2 ∨ j = 3 ∨ j = 4 ∨ j = 5 ∨ j = 6 := by omega
        rcases hc with rfl | rfl | rfl | rfl | rfl | rfl | rfl <;> (simp at hv; subst hv; assumption)
      have HS := Lib.hid hsrc
      clear hsrc
      go_region_law (refine step_copy_splice rfl (.tmp 80) (.tmp 81) 144 144 rfl 142 Try.underlying144 (by kernel_rfl) _ _ _ _ _ _ rfl rfl (w.heap.size + 1 + 1) 1 [U a0, U a1, U a2, U a3, U a4, U a5, U a6, U a7] 143 HB.out.2.2.1 [U a0, U a1, U a2, U a3, U a4, U a5, U a6] rfl (fun _ => ⟨rfl, _, rfl, HS.out⟩) (by simp) (by simp [U_one]) (w.heap.size + 1 + 1) wr ⟨rfl, rfl, rfl, Nat.le_refl _, fun _ _ => rfl⟩ (Nat.le_refl _) ?_; intro w4 hg4 hb4)
      have hA4 : ArrU w4 (w.heap.size + 1 + 1) 143 [a0, a0, a1, a2, a3, a4, a5, a6] := hg4.out
      have hs4 : w.heap.size + 1 + 1 < w4.heap.size := hA4.lt
      clear c0 c1 c2 c3 c4 c5 c6 c7 f0 f4 ix ck
      have d4 := hA4.c 4 (by simp)
      have g4 := hA4.fr 4
      have g0 := hA4.fr 0
      have d0 := hA4.c 0 (by simp)
      simp only [List.getElem_cons_zero, List.getElem_cons_succ] at d4 d0
      go_wp2
      refine ⟨⟨i + 1, by simp, by omega, ?_, ?_, ?_, ?_⟩, by simp [intOf]; omega⟩
      · exact HB.out.1.only (((Only.of_belowN hb4).setCell _ _ (.inl (Nat.le_refl _))).setCell _ _ (.inl (Nat.le_refl _))) (by omega)
      · exact HB.out.2.1.only (((Only.of_belowN hb4).setCell _ _ (.inl (Nat.le_refl _))).setCell _ _ (.inl (Nat.le_refl _))) (by omega)
      · rw [HST.out]
        exact (hA4.set 4 _).set 0 _
      · exact ((HB.out.2.2.2.trans (hb4.mono (by omega))).setCell (by simp; omega) _).setCell (by simp; omega) _
    · have h64i : i = 64 := by omega
      have hge : ¬ (i : Int) < 64 := by omega
      rw [h64i] at hA7
      obtain ⟨V, hV⟩ : ∃ V, V = rnds SB K [s0, s1, s2, s3, s4, s5, s6, s7] 64 := ⟨_, rfl⟩
      have hVl : V.length = 8 := by rw [hV]; exact rnds_len _ _ _ rfl 64
      rw [← hV] at hA7
      have HV := Lib.hid hV
      have HB := Lib.hid (And.intro hA3 (And.intro hA6 (And.intro hA7 (And.intro hB hVl))))
      clear hlt hi h64i hA3 hA6 hA7 hB hV hVl
      go_upto_region 12 with (fail)
      clear hge
      go_wp2_with (first
        | (refine ld_arrU rfl 143 (.tmp 7) rfl (w.heap.size + 1 + 1) rfl _ V HB.out.2.2.1 _ _ Try.underlying143 (by rw [HB.out.2.2.2.2]; exact Try.infoA8) ?_))
      go_loopw [94] (fun v94 wr => MxRel2 w [s0, s1, s2, s3, s4, s5, s6, s7] V v94 wr) (fun v94 _ => (8 - intOf v94).toNat)
      case atStart => exact ⟨0, rfl, by omega, HB.out.1, HB.out.2.1, HB.out.2.2.2.1⟩
      case round =>
        have HVl := Lib.hid HB.out.2.2.2.2
        clear HB
        obtain ⟨i, rfl, hi, hA3, hA6, hB⟩ := hrel
        by_cases hlt : i < 8
        · have hsl : (addK [s0, s1, s2, s3, s4, s5, s6, s7] V i).length = 8 := by rw [addK_len]; rfl
          have cc := hA3.c i (by rw [hsl]; exact hlt)
          have ff := hA3.fr i
          have ix := fun wx => index_agg 143 142 8 Try.underlying143 (by kernel_rfl) Try.underlying142 V HVl.out i (by rw [HVl.out]; exact hlt) wx
          obtain ⟨x1, h1⟩ : ∃ x, x = (addK [s0, s1, s2, s3, s4, s5, s6, s7] V i)[i]'(by rw [hsl]; exact hlt) := ⟨_, rfl⟩
          obtain ⟨x2, h2⟩ : ∃ x, x = V[i]'(by rw [HVl.out]; exact hlt) := ⟨_, rfl⟩
          rw [← h1] at cc
          rw [← h2] at ix
          have hst : addK [s0, s1, s2, s3, s4, s5, s6, s7] V (i + 1) = (addK [s0, s1, s2, s3, s4, s5, s6, s7] V i).set i (x1 + x2) := by
            rw [h1, h2]
            show ((addK _ V i).set i _) = _
            simp only [List.getD_eq_getElem?_getD, List.getElem?_eq_getElem (by rw [HVl.out]; exact hlt : i < V.length), List.getElem?_eq_getElem (by rw [hsl]; exact hlt : i < (addK [s0, s1, s2, s3, s4, s5, s6, s7] V i).length), Option.getD_some]
          have HST := Lib.hid hst
          have HB := Lib.hid (And.intro hA3 (And.intro hA6 hB))
          have hlI : (i : Int) < 8 := by omega
          have hi0 : (0 : Int) ≤ (i : Int) := by omega
          clear hst h1 h2 hsl hA3 hA6 hB
          go_wp2
          refine ⟨⟨i + 1, by simp, by omega, by rw [HST.out]; exact HB.out.1.set i _, HB.out.2.1.only ((Only.refl (fun k => k = w.heap.size) wr).setCell _ _ (.inl rfl)) (by omega), HB.out.2.2.setCell (by simp) _⟩, by simp [intOf]; omega⟩
        · obtain rfl : i = 8 := by omega
          have hsl : (addK [s0, s1, s2, s3, s4, s5, s6, s7] V 8).length = 8 := by rw [addK_len]; rfl
          have HB := Lib.hid (And.intro hA3 (And.intro hA6 (And.intro hB hsl)))
          clear hA3 hA6 hB hsl
          go_upto_region 17 with (fail)
          go_wp2_with (first
            | (refine ld_arrU rfl 143 _ rfl w.heap.size rfl _ _ HB.out.1 _ _ Try.underlying143 (by rw [HB.out.2.2.2]; exact Try.infoA8) ?_)
            | (refine st_arrU rfl 143 _ _ rfl (w.heap.size + 1) _ rfl rfl _ _ HB.out.2.1 (by rw [HB.out.2.2.2]; exact Try.infoA8) (by rw [HB.out.2.2.2]; simp) ?_; intro w5 hA5 hO5))
          refine bodyPost_ret (v := .agg ((addK [s0, s1, s2, s3, s4, s5, s6, s7] V 8).map U).toArray) (results_cell_row (P := Try.prog) Try.results108 _ _ (w.heap.size + 1) _ _ _ _ rfl hA5 Try.underlying143 rfl (by rw [Try.infoA8]; simp [HB.out.2.2.2])) rfl (And.intro ?_ ?_)
          · rw [HV.out]; rfl
          · exact below_only HB.out.2.2.1 HB.out.2.2.1.size hO5 (by intro k hk e; omega)
end Go.Proofs.Ytegmimnhkohaoaa
/-
  The contract of sha.Sum. Condition: at most 2 to the 47th bytes, less two thousand.
-/
namespace Go.Kx
open Go.RowKit
/-- An array of bytes in a block of its own. -/
def ArrB (w : World) (r t : Nat) (xs : List UInt8) : Prop := w.heap[r]? = some (.cells (xs.map B8).toArray t (0, 0))
theorem ArrB.c {w : World} {r t : Nat} {xs : List UInt8} (h : ArrB w r t xs) (i : Nat) (hi : i < xs.length) : w.cell? ⟨r, i, none⟩ = some (B8 (xs[i]'hi)) := by
  unfold ArrB at h
  simp [World.cell?, h, hi]
theorem ArrB.fr {w : World} {r t : Nat} {xs : List UInt8} (h : ArrB w r t xs) (o : Nat) : w.frozen? ⟨r, o, none⟩ = false := by unfold ArrB at h; simp [World.frozen?, h]
theorem ArrB.lt {w : World} {r t : Nat} {xs : List UInt8} (h : ArrB w r t xs) : r < w.heap.size := (Array.getElem?_eq_some_iff.1 h).1
theorem ArrB.only {w w' : World} {q : Nat → Prop} {r t : Nat} {xs : List UInt8} (h : ArrB w r t xs) (ho : Only q w w') (hd : ¬ q r) : ArrB w' r t xs := (ho.block r h.lt hd).trans h
theorem ArrB.below {w w' : World} {r t : Nat} {xs : List UInt8} (h : ArrB w r t xs) (ho : Below w.heap.size w w') : ArrB w' r t xs := (ho.block r h.lt).trans h
theorem ArrB.new (w : World) (t : Nat) (xs : List UInt8) : ArrB (w.alloc (.cells (xs.map B8).toArray t)) w.heap.size t xs := heap_alloc_new w _
theorem ArrB.set {w : World} {r t : Nat} {xs : List UInt8} (h : ArrB w r t xs) (i : Nat) (x : UInt8) : ArrB (w.setCell ⟨r, i, none⟩ (B8 x)) r t (xs.set i x) := by
  unfold ArrB at *
  simp [World.setCell, Array.getElem?_modify, h, List.map_set]
theorem arrB_ones (xs : List UInt8) : ((xs.map B8).toArray).all (fun v => v.oneCell') = true := by
  rw [Array.all_eq_true_iff_forall_mem]
  intro v hv
  simp only [List.mem_toArray, List.mem_map] at hv
  obtain ⟨x, _, rfl⟩ := hv
  rfl
theorem only_setRow' (w : World) (r : Nat) (C : Array Value) : Only (· = r) w (w.setRow r C) :=
  ⟨rfl, rfl, rfl, by simp, fun k _ hk => by simp only [World.setRow, Array.getElem?_modify]; rw [if_neg (by omega)]⟩
theorem ArrB.setRow {w : World} {r t : Nat} {xs : List UInt8} (h : ArrB w r t xs) (ys : List UInt8) : ArrB (w.setRow r (ys.map B8).toArray) r t ys := by
  unfold ArrB at *
  simp [World.setRow, Array.getElem?_modify, h]
theorem ld_arrB {P : Program} {ops : Array Oper} {rest : List Oper} {op : Oper} {a : Act} {w : World} {Q : Exit → Act → World → Prop} (hgd : op.guard = none) (ty : TypeId) (x : Operand) (ho : op.op = .load ty x)
    (g : Nat) (hx : a.eval x = .pointer (some ⟨g, 0, none⟩)) (t : TypeId) (xs : List UInt8) (hg : ArrB w g t xs) (n e : Nat) (hu : P.underlying ty = some (.array n e)) (hi : (P.info? ty).map (·.size) = some xs.length)
    (h : wpList P ops Q rest (a.put op.dst (.agg (xs.map B8).toArray)) w) : wpList P ops Q (op :: rest) a w :=
  wpList_load_row hgd ty x ho g hx t _ (0, 0) (.array n e) hg hu rfl (by rw [hi]; simp) h
theorem st_arrB {P : Program} {ops : Array Oper} {rest : List Oper} {op : Oper} {a : Act} {w : World} {Q : Exit → Act → World → Prop} (hgd : op.guard = none) (ty : TypeId) (x y : Operand) (ho : op.op = .store ty x y)
    (g : Nat) (xs : List UInt8) (hx : a.eval x = .pointer (some ⟨g, 0, none⟩)) (hy : a.eval y = .agg (xs.map B8).toArray) (t : TypeId) (old : List UInt8) (hg : ArrB w g t old) (hi : (P.info? ty).map (·.size) = some xs.length) (hl : old.length = xs.length)
    (h : ∀ w', ArrB w' g t xs → Only (· = g) w w' → wpList P ops Q rest (a.put op.dst undef) w') : wpList P ops Q (op :: rest) a w :=
  wpList_store_row hgd ty x y ho g _ hx hy t _ hg (by rw [hi]; simp) (by simpa using hl) (arrB_ones xs) (h _ (hg.setRow xs) (only_setRow' w g _))
end Go.Kx
namespace Go.Proofs.Ytegmimnhkohaoaa
open Go.RowKit Go.Kx
set_option linter.unusedVariables false
set_option linter.unusedSimpArgs false
attribute [local go_sem ↓] U_add U_mul U_xor U_or U_and U_not U_guard1 U_guard2 U_store exec_stU
attribute [local go_sem] st1_U st1_i

/-- The eight numbers behind so many blocks. -/
def hashS (M : List UInt8) : Nat → List UInt32
  | 0 => rootsL 8 false
  | j + 1 => mixL (hashS M j) (sched (M.drop (64 * j))) (rootsL 64 true)
/-- A byte of the sum. -/
def low8 (x : UInt32) : UInt8 := UInt8.ofNat x.toNat
def outB (s : List UInt32) (i : Nat) : UInt8 := low8 (shr32 (s.getD (i / 4) 0) (24 - 8 * (i % 4)))
def outK (s : List UInt32) : Nat → List UInt8
  | 0 => List.replicate 32 0
  | i + 1 => (outK s i).set i (outB s i)
def sumL (b : List UInt8) : List UInt8 := outK (hashS (padL b) ((padL b).length / 64)) 32
theorem outK_len (s : List UInt32) (i : Nat) : (outK s i).length = 32 := by
  induction i with
  | zero => simp [outK]
  | succ i ih => simp only [outK, List.length_set, ih]
theorem sumL_len (b : List UInt8) : (sumL b).length = 32 := outK_len _ _
theorem mixL_len (s b K : List UInt32) : (mixL s b K).length = s.length := addK_len _ _ _
theorem rootsL_len {n : Nat} (h : n ≤ 64) (c : Bool) : (rootsL n c).length = n := by unfold rootsL; rw [List.length_map]; exact primesL_len h
theorem hashS_len (M : List UInt8) (j : Nat) : (hashS M j).length = 8 := by
  induction j with
  | zero => exact rootsL_len (by omega) false
  | succ j ih => rw [hashS, mixL_len, ih]
theorem RdU.only {w w' : World} {q : Nat → Prop} {g o : Nat} {ks : List UInt32} (h : RdU w (some ⟨g, o, none⟩) ks) (ho : Only q w w') (hd : ¬ q g) : RdU w' (some ⟨g, o, none⟩) ks := by
  intro i hi
  obtain ⟨g', o', h1, h2⟩ := h i hi
  cases h1
  refine ⟨g, o, rfl, ?_⟩
  have hlt := World.block_lt_of_cell? _ _ h2
  exact (World.cell?_of_block (w := w) (w' := w') (ho.block g hlt hd)).trans h2

theorem cvU8 (x : UInt32) (w : World) : (convert 142 5 (U x)).run Try.prog w = .ok (.int .u8 ((low8 x).toNat : Int)) w := by
  unfold low8
  have hk : Try.prog.intKind 5 = .u8 := by kernel_rfl
  have h2 := run_convert_int (P := Try.prog) (w := w) 142 5 .u32 (x.toNat : Int) (by rw [Try.underlying142]; rfl) (by rw [hk]; exact Try.underlying5)
  have h : IntKind.u8.wrap (x.toNat : Int) = ((UInt8.ofNat x.toNat).toNat : Int) := by
    rw [UInt8.toNat_ofNat']
    unfold IntKind.wrap
    simp [IntKind.bits, IntKind.signed]
  rw [hk, h] at h2
  exact h2
theorem Try.infoB32 : (Try.prog.info? 22).map (·.size) = some 32 := by kernel_rfl
def SumR (w : World) (X : List UInt8) (e : Ending) (w' : World) : Prop := e = .returned (.agg (X.map B8).toArray) ∧ Below w.heap.size w w'

/-- At the head of the loop over the blocks. -/
def SmRel (w w3 : World) (M : List UInt8) (N C gm : Nat) (v5 : Value) (wr : World) : Prop := ∃ (j cc : Nat) (q : Option Addr), v5 = .slice q (N - 64 * j) cc ∧ 64 * j ≤ N ∧ (64 * j < N → q = some ⟨gm, 64 * j, none⟩ ∧ cc = C - 64 * j) ∧ ArrU wr (w.heap.size + 1) 143 (hashS M j) ∧ Only (· = w.heap.size + 1) w3 wr
def SmMeas (v5 : Value) : Nat := match v5 with
  | .slice _ n _ => n
  | _ => 0
/-- At the head of the loop over the bytes. -/
def SmRel2 (w w3 : World) (s : List UInt32) (v23 : Value) (wr : World) : Prop := ∃ i : Nat, v23 = .int .i64 (i : Int) ∧ i ≤ 32 ∧ ArrB wr w3.heap.size 22 (outK s i) ∧ Below w3.heap.size w3 wr

set_option maxHeartbeats 8000000 in
set_option maxRecDepth 100000 in
theorem sum_c (S : Nat → Prop) (p : Option Addr) (n c : Nat) (b : List UInt8) (w : World) (hR : Rd w S p b) (hp : p = none → c = 0) (hl : b.length + 2000 ≤ 140737488355328) (hn : b.length = n) :
    Calls Try.prog 66 #[.slice p n c] w (SumR w (sumL b)) := by
  have HR := Lib.hid (And.intro hR (And.intro hp (And.intro hl hn)))
  clear hR hp hn hl
  obtain ⟨W0, hW0⟩ : ∃ W0, W0 = (w.alloc (.cells #[.int .u8 0, .int .u8 0, .int .u8 0, .int .u8 0, .int .u8 0, .int .u8 0, .int .u8 0, .int .u8 0, .int .u8 0, .int .u8 0, .int .u8 0, .int .u8 0, .int .u8 0, .int .u8 0, .int .u8 0, .int .u8 0, .int .u8 0, .int .u8 0, .int .u8 0, .int .u8 0, .int .u8 0, .int .u8 0, .int .u8 0, .int .u8 0, .int .u8 0, .int .u8 0, .int .u8 0, .int .u8 0, .int .u8 0, .int .u8 0, .int .u8 0, .int .u8 0] 22)).alloc (.cells #[.int .u32 0, .int .u32 0, .int .u32 0, .int .u32 0, .int .u32 0, .int .u32 0, .int .u32 0, .int .u32 0] 143) := ⟨_, rfl⟩
  have hA2 : ArrB W0 w.heap.size 22 (List.replicate 32 0) := by
    have r1 : ArrB _ _ 22 (List.replicate 32 0) := ArrB.new w 22 (List.replicate 32 0)
    rw [hW0]
    exact r1.below ((Below.refl _ _).alloc (Nat.le_refl _) _)
  have hA3 : ArrU W0 (w.heap.size + 1) 143 (List.replicate 8 0) := by
    have r2 : ArrU _ _ 143 (List.replicate 8 0) := ArrU.new (w.alloc (.cells #[.int .u8 0, .int .u8 0, .int .u8 0, .int .u8 0, .int .u8 0, .int .u8 0, .int .u8 0, .int .u8 0, .int .u8 0, .int .u8 0, .int .u8 0, .int .u8 0, .int .u8 0, .int .u8 0, .int .u8 0, .int .u8 0, .int .u8 0, .int .u8 0, .int .u8 0, .int .u8 0, .int .u8 0, .int .u8 0, .int .u8 0, .int .u8 0, .int .u8 0, .int .u8 0, .int .u8 0, .int .u8 0, .int .u8 0, .int .u8 0, .int .u8 0, .int .u8 0] 22)) 143 (List.replicate 8 0)
    simp only [World.size_alloc] at r2
    rw [hW0]
    exact r2
  have hB0 : Below w.heap.size w W0 := by rw [hW0]; exact ((Below.refl _ _).alloc (Nat.le_refl _) _).alloc (by simp) _
  have H0 := Lib.hid (And.intro hA2 (And.intro hA3 hB0))
  have HE := Lib.hid hW0.symm
  have hlt3 := hA3.lt
  clear hW0 hA2 hA3 hB0
  obtain ⟨H8, hH8⟩ : ∃ x, x = rootsL 8 false := ⟨_, rfl⟩
  have hH8l : H8.length = 8 := by rw [hH8]; exact rootsL_len (by omega) false
  obtain ⟨h0, h1, h2, h3, h4, h5, h6, h7, he8⟩ := list8 H8 hH8l
  have R8 : ∀ wx, Calls Try.prog 106 #[.int .i64 8, .bool false] wx (RoR wx 8 false) := fun wx => roots_c 8 false wx (by omega)
  have HR8 := Lib.hid (And.intro R8 (And.intro hH8 (And.intro hH8l he8)))
  clear R8 hH8 hH8l he8
  go_enter Try.func66, Try.ntmps66
  go_upto_region 2 with (fail)
  rw [HE.out]
  go_region_held3 (fun w' => True) (trivial) (first
    | (go_at_call 106; refine (HR8.out.1 _).mono ?_; rintro e w1 ⟨g8, c8, rfl, k1, k2, k3, k4⟩; rw [← HR8.out.2.1, HR8.out.2.2.2] at k1; have HK4 := Lib.hid (And.intro k1 (undrew k4)); clear k1 k4)
    | (refine step_copy_splice rfl (.tmp 8) (.tmp 9) 144 144 rfl 142 Try.underlying144 (by kernel_rfl) _ _ _ _ _ _ rfl rfl (w.heap.size + 1) 0 (List.replicate 8 (.int .u32 0)) 143 (H0.out.2.1.below HK4.out.2) [U h0, U h1, U h2, U h3, U h4, U h5, U h6, U h7] rfl (fun _ => ⟨rfl, _, rfl, HK4.out.1.1.cells (g := g8) rfl⟩) (by simp) (by simp [U_one]) (w.heap.size + 1) W0 (HK4.out.2.mono (Nat.le_of_lt hlt3)) (Nat.le_refl _) ?_; intro w4 hg4 hb4))
  have hA4 : ArrU w4 (w.heap.size + 1) 143 H8 := by rw [HR8.out.2.2.2]; exact hg4.out
  have hR4 : ArrB w4 w.heap.size 22 (List.replicate 32 0) := H0.out.1.only (Only.of_belowN hb4) (by omega)
  have hB4 : Below w.heap.size w w4 := H0.out.2.2.trans (hb4.mono (by omega))
  have H4 := Lib.hid (And.intro hA4 (And.intro hR4 hB4))
  clear hA4 hR4 hB4 hg4 hb4 HK4
  have RK := Lib.hid (fun wx => roots_c 64 true wx (by omega))
  obtain ⟨K, hK⟩ : ∃ x, x = rootsL 64 true := ⟨_, rfl⟩
  have HK := Lib.hid (And.intro hK (show K.length = 64 by rw [hK]; exact rootsL_len (by omega) true))
  clear hK
  have hb4w := H4.out.2.2.size
  go_wp2_with (first
    | (go_at_call 106; refine (RK.out w4).mono ?_; rintro e w2 ⟨gk, ck, rfl, k1, k2, k3, k4⟩; rw [← HK.out.1] at k1; have HKR := Lib.hid (And.intro k1 k4); clear k1 k4)
    | (go_at_call 107; refine (padded_c S p n c b w2 ((HR.out.1.below H4.out.2.2).below (HKR.out.2)) HR.out.2.1 HR.out.2.2.1 HR.out.2.2.2).mono ?_; rintro e w3 ⟨gm, N, C, rfl, m1, m2, m3, m4, m5, m6, m7⟩; have HM := Lib.hid (And.intro m1 (And.intro m2 m7)); clear m1 m2 m7))
  obtain ⟨M, hM⟩ : ∃ x, x = padL b := ⟨_, rfl⟩
  have hN64 : N % 64 = 0 := by rw [← HM.out.1]; exact (padL_len b).1
  have hCm : C ≤ 9223372036854775807 := by unfold maxLen at m6; exact m6
  have hB2 : Below w.heap.size w w2 := H4.out.2.2.trans (HKR.out.2.mono hb4w)
  have hB3 : Below w.heap.size w w3 := hB2.trans (HM.out.2.2.mono hB2.size)
  have hA3 : ArrU w3 (w.heap.size + 1) 143 (hashS M 0) := by
    have h := (H4.out.1.below HKR.out.2).below HM.out.2.2
    rw [show hashS M 0 = H8 by rw [HR8.out.2.1]; rfl]
    exact h
  have hR3 : ArrB w3 w.heap.size 22 (List.replicate 32 0) := (H4.out.2.1.below HKR.out.2).below HM.out.2.2
  have hM3 : Rd w3 (fun k => k = gm) (some ⟨gm, 0, none⟩) M ∧ M.length = N := by rw [hM]; exact ⟨HM.out.2.1.rd, HM.out.1⟩
  have hK3 : RdU w3 (some ⟨gk, 0, none⟩) K := by
    have h : RdU w2 (some ⟨gk, 0, none⟩) K := by
      intro i hi
      refine ⟨gk, 0, rfl, ?_⟩
      have hc := HKR.out.1.1.cells (g := gk) rfl i (U K[i]) (by simp [hi])
      have e : (⟨gk, 0, none⟩ : Addr).add i = ⟨gk, 0 + i, none⟩ := by unfold Addr.add; split <;> simp_all
      rwa [e] at hc
    exact h.below HM.out.2.2
  have hs34 : w.heap.size + 1 < w4.heap.size := H4.out.1.lt
  have hs42 := HKR.out.2.size
  have hs23 := HM.out.2.2.size
  have H3 := Lib.hid (And.intro hA3 (And.intro hR3 (And.intro hM3 (And.intro hK3 hB3))))
  have HMM := Lib.hid hM
  clear hA3 hR3 hM3 hK3 hB3 hB2 hM
  go_loopw [5] (fun v5 wr => SmRel w w3 M N C gm v5 wr) (fun v5 _ => SmMeas v5)
  case atStart => exact ⟨0, C, _, rfl, by omega, fun _ => ⟨rfl, rfl⟩, H3.out.1, Only.refl _ _⟩
  case round =>
    obtain ⟨j, cc, q, rfl, hj, hq, hA, hO⟩ := hrel
    have HO := Lib.hid hO
    have hszr := hO.size
    by_cases hlt : 64 * j < N
    · obtain ⟨rfl, rfl⟩ := hq hlt
      have hsl : (hashS M j).length = 8 := hashS_len M j
      have hst : hashS M (j + 1) = mixL (hashS M j) (sched (M.drop (64 * j))) K := by rw [HK.out.1]; rfl
      obtain ⟨n', hn'⟩ : ∃ n', n' = N - 64 * j := ⟨_, rfl⟩
      obtain ⟨c', hc'⟩ : ∃ c', c' = C - 64 * j := ⟨_, rfl⟩
      obtain ⟨o', ho'⟩ : ∃ o', o' = 64 * j := ⟨_, rfl⟩
      rw [← hn', ← hc', ← ho']
      have hRd : Rd wr (fun k => k = gm) (some ⟨gm, 0 + o', none⟩) (M.drop o') := (H3.out.2.2.1.1.only hO (fun k hk e => by omega)).drop o'
      rw [Nat.zero_add] at hRd
      rw [← ho'] at hst
      have hRl : (M.drop o').length = n' := by rw [List.length_drop, H3.out.2.2.1.2]; omega
      have hKr : RdU wr (some ⟨gk, 0, none⟩) K := H3.out.2.2.2.1.only hO (by omega)
      have hn64 : 64 ≤ n' := by omega
      have hnc : n' ≤ c' := by omega
      have hc63 : c' ≤ 9223372036854775807 := by omega
      have HX := Lib.hid (And.intro hRd (And.intro hRl (And.intro hKr (And.intro hA (And.intro hst hsl)))))
      have HJ := Lib.hid (And.intro hn' (And.intro hc' ho'))
      clear hRd hRl hKr hA hst hn' hc' ho' hO hsl hq
      have hn0 : 0 < n' := by omega
      by_cases hcc : c' = 64
      · subst hcc
        have hn64' : n' = 64 := by omega
        have HNN := Lib.hid hn64'
        clear hn64'
        go_wp2_with (first
          | (refine ld_arrU rfl 143 (.tmp 3) rfl (w.heap.size + 1) rfl _ _ HX.out.2.2.2.1 _ _ Try.underlying143 (by rw [HX.out.2.2.2.2.2]; exact Try.infoA8) ?_)
          | (go_at_call 108; refine (mix_c _ _ n' 64 _ _ _ _ K _ wr HX.out.1 HX.out.2.1 hn64 hnc HX.out.2.2.2.2.2 HX.out.2.2.1 HK.out.2 rfl).mono ?_; rintro e w5 ⟨rfl, hB5⟩; rw [← HX.out.2.2.2.2.1]; have HB5 := Lib.hid hB5; clear hB5)
          | (refine st_arrU rfl 143 (.tmp 3) _ rfl (w.heap.size + 1) _ rfl rfl _ _ (HX.out.2.2.2.1.below HB5.out) (by rw [hashS_len]; exact Try.infoA8) (by rw [hashS_len, hashS_len]) ?_; intro w6 hA6 hO6))
        have hO36 : Only (fun k => k = w.heap.size + 1) w3 w6 := (HO.out.then (Only.of_below HB5.out)).then hO6
        refine ⟨⟨j + 1, 0, some ⟨gm, o', none⟩, by have := HJ.out; have := HNN.out; rw [show N - 64 * (j + 1) = 0 by omega], by have := HJ.out; have := HNN.out; omega, fun h => by have := HJ.out; have := HNN.out; omega, hA6, hO36⟩, ?_⟩
        show 0 < n'
        omega
      · go_wp2_with (first
          | (refine ld_arrU rfl 143 (.tmp 3) rfl (w.heap.size + 1) rfl _ _ HX.out.2.2.2.1 _ _ Try.underlying143 (by rw [HX.out.2.2.2.2.2]; exact Try.infoA8) ?_)
          | (go_at_call 108; refine (mix_c _ _ n' c' _ _ _ _ K _ wr HX.out.1 HX.out.2.1 hn64 hnc HX.out.2.2.2.2.2 HX.out.2.2.1 HK.out.2 rfl).mono ?_; rintro e w5 ⟨rfl, hB5⟩; rw [← HX.out.2.2.2.2.1]; have HB5 := Lib.hid hB5; clear hB5)
          | (refine st_arrU rfl 143 (.tmp 3) _ rfl (w.heap.size + 1) _ rfl rfl _ _ (HX.out.2.2.2.1.below HB5.out) (by rw [hashS_len]; exact Try.infoA8) (by rw [hashS_len, hashS_len]) ?_; intro w6 hA6 hO6))
        have hO36 : Only (fun k => k = w.heap.size + 1) w3 w6 := (HO.out.then (Only.of_below HB5.out)).then hO6
        refine ⟨⟨j + 1, c' - 64, some ⟨gm, o' + 64, none⟩, by have := HJ.out; rw [show N - 64 * (j + 1) = n' - 64 by omega], by have := HJ.out; omega, fun h => ⟨by have := HJ.out; rw [show 64 * (j + 1) = o' + 64 by omega], by have := HJ.out; omega⟩, hA6, hO36⟩, ?_⟩
        show n' - 64 < n'
        omega
    · have hjn : j = N / 64 := by omega
      have h0 : N - 64 * j = 0 := by omega
      rw [h0]
      obtain ⟨st, hst⟩ : ∃ x, x = hashS M j := ⟨_, rfl⟩
      have hsl : st.length = 8 := by rw [hst]; exact hashS_len M j
      rw [← hst] at hA
      have HS := Lib.hid (And.intro hst (And.intro hsl (And.intro hA hjn)))
      have hs8 := hA.lt
      clear hq h0 hlt hst hsl hA hO hjn
      obtain ⟨wo, rfl⟩ : ∃ wo : World, wo = wr := ⟨_, rfl⟩
      have h01 : SmRel2 w wo st (.int .i64 0) (wo.alloc (.cells ((List.replicate 32 (0 : UInt8)).map B8).toArray 22)) := ⟨0, rfl, by omega, ArrB.new _ _ _, (Below.refl _ _).alloc (Nat.le_refl _) _⟩
      have H01 := Lib.hid h01
      clear h01
      have cv := cvU8
      go_wp2
      go_loopw [23] (fun v23 wx => SmRel2 w wo st v23 wx) (fun v23 _ => (32 - intOf v23).toNat)
      case atStart => exact H01.out
      case round =>
        obtain ⟨i, rfl, hi, hA, hB⟩ := hrel
        have HB := Lib.hid (And.intro hA hB)
        have hszx := hB.size
        by_cases hlt : i < 32
        · have hol := outK_len st i
          have c1 := (HS.out.2.2.1.below hB).c (i / 4) (by rw [HS.out.2.1]; omega)
          have c2 := hA.c i (by rw [hol]; exact hlt)
          have f2 := hA.fr i
          obtain ⟨X, hX⟩ : ∃ x, x = st[i / 4]'(by rw [HS.out.2.1]; omega) := ⟨_, rfl⟩
          rw [← hX] at c1
          obtain ⟨Y, hY⟩ : ∃ x, x = (outK st i)[i]'(by rw [hol]; exact hlt) := ⟨_, rfl⟩
          rw [← hY] at c2
          have hst : outK st (i + 1) = (outK st i).set i (low8 (shr32 X (24 - 8 * (i % 4)))) := by
            show ((outK st i).set i (outB st i)) = _
            unfold outB
            rw [hX]
            simp only [List.getD_eq_getElem?_getD, List.getElem?_eq_getElem (by rw [HS.out.2.1]; omega : i / 4 < st.length), Option.getD_some]
          have HST := Lib.hid hst
          have hsh := fun (w : World) => U_shr (P := Try.prog) (w := w) (t := 142) X .i64 (24 - 8 * ((i : Int) % 4)) (by omega)
          rw [show (24 - 8 * ((i : Int) % 4)).toNat = 24 - 8 * (i % 4) by omega] at hsh
          have hti : ((i : Int) / 4).toNat = i / 4 := by omega
          have hlI : (i : Int) < 32 := by omega
          have hi0 : (0 : Int) ≤ (i : Int) := by omega
          clear hst hX hY hol hA hB
          go_wp2
          refine ⟨⟨i + 1, by simp, by omega, by rw [HST.out]; exact HB.out.1.set i _, HB.out.2.setCell (by simp) _⟩, by simp [intOf]; omega⟩
        · obtain rfl : i = 32 := by omega
          have hol := outK_len st 32
          have hO2 : ArrB wo w.heap.size 22 (List.replicate 32 0) := H3.out.2.1.only HO.out (by omega)
          have HO2 := Lib.hid (And.intro (hO2.below hB) hol)
          have hsr : w.heap.size < wo.heap.size := hO2.lt
          clear hA hB hol hO2
          go_upto_region 14 with (fail)
          go_wp2_with (first
            | (refine ld_arrB rfl 22 (.tmp 6) rfl wo.heap.size rfl _ _ HB.out.1 _ _ Try.underlying22 (by rw [HO2.out.2]; exact Try.infoB32) ?_)
            | (refine st_arrB rfl 22 (.tmp 2) _ rfl w.heap.size _ rfl rfl _ _ HO2.out.1 (by rw [HO2.out.2]; exact Try.infoB32) (by rw [HO2.out.2]; simp) ?_; intro w7 hA7 hO7))
          refine bodyPost_ret (v := .agg ((outK st 32).map B8).toArray) (results_cell_row (P := Try.prog) Try.results66 _ _ w.heap.size _ _ _ _ rfl hA7 Try.underlying22 rfl (by rw [Try.infoB32]; simp [HO2.out.2])) rfl (And.intro ?_ ?_)
          · rw [HS.out.1, HS.out.2.2.2, HMM.out]
            unfold sumL
            rw [HM.out.1]
          · have h1 : Below w.heap.size w wo := below_only H3.out.2.2.2.2 H3.out.2.2.2.2.size HO.out (by intro k hk e; omega)
            have h2 := h1.trans (HB.out.2.mono h1.size)
            exact below_only h2 h2.size hO7 (by intro k hk e; omega)
end Go.Proofs.Ytegmimnhkohaoaa
