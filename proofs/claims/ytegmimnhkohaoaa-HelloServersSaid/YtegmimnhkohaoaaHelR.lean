/-
  The contracts of relayref08's u16, vec, ext, share. Conditions: at most 2 to the 47th bytes.
-/
import Derived.Test.YtegmimnhkohaoaaStepA
import Derived.Test.YtegmimnhkohaoaaStr
import Derived.Test.YtegmimnhkohaoaaBack
import Derived.Test.YtegmimnhkohaoaaAppB
import Derived.Deep.RegionHeld3
namespace Go.Proofs.Ytegmimnhkohaoaa
open Go.RowKit Go.Kx
set_option linter.unusedVariables false
set_option linter.unusedSimpArgs false

/-- The low eight bits. -/
def b8 (z : Int) : UInt8 := UInt8.ofNat (z % 256).toNat
theorem b8_nat (z : Int) : ((b8 z).toNat : Int) = z % 256 := by
  unfold b8
  rw [UInt8.toNat_ofNat']
  omega
def u16L (n : Int) : List UInt8 := [b8 (n / 256), b8 n]
theorem u16L_nat (n : Nat) (h : n < 65536) : u16L (n : Int) = be n 2 := by
  have e1 : b8 ((n : Int) / 256) = UInt8.ofNat (n / 256 ^ 1) := by
    unfold b8
    apply UInt8.toNat_inj.1
    rw [UInt8.toNat_ofNat', UInt8.toNat_ofNat']
    omega
  have e2 : b8 (n : Int) = UInt8.ofNat (n / 256 ^ 0) := by
    unfold b8
    apply UInt8.toNat_inj.1
    rw [UInt8.toNat_ofNat', UInt8.toNat_ofNat']
    omega
  unfold u16L
  rw [e1, e2]
  rfl
theorem Own.lit (w : World) (l : List UInt8) (h : l.length ≤ 1000) : Own (w.alloc (.cells (l.map B8).toArray 5)) w.heap.size (.slice (some ⟨w.heap.size, 0, none⟩) l.length l.length) l :=
  ⟨⟨by simp, .inr ⟨w.heap.size, l.length, (l.map B8).toArray, rfl, Nat.zero_le _, heap_alloc_new w _, Nat.le_refl _, by unfold maxLen; omega, by simp, by simp [List.take_of_length_le]⟩⟩, .inr rfl⟩
theorem u16_c (n : Int) (w : World) : Calls Try.prog 40 #[.int .i64 n] w (PutYes w (u16L n)) := by
  have h := Own.lit w (u16L n) (by simp [u16L])
  have e : (u16L n).map B8 = [.int .u8 (n / 256 % 256), .int .u8 (n % 256)] := by simp [u16L, B8, b8_nat]
  rw [e] at h
  have H := Lib.hid h
  clear h e
  go_enter Try.func40, Try.ntmps40
  go_wp2
  go_ret
  exact ⟨w.heap.size, 2, 2, rfl, rfl, Nat.le_refl _, by rw [World.size_alloc]; omega, Nat.le_refl _, by unfold maxLen; omega, H.out, (Below.refl _ _).alloc (Nat.le_refl _) _⟩

/-- One round of vec. -/
def VRel (w : World) (n W : Nat) (v5 v6 : Value) (wr : World) : Prop :=
  ∃ (k : Nat) (z : Int) (g : Nat) (dn : List UInt8), v6 = .int .i64 z ∧ z = (k : Int) - 1 ∧ k ≤ W ∧ w.heap.size ≤ g ∧ (k < W → g < wr.heap.size) ∧ Own wr g v5 dn ∧ dn ++ be n k = be n W ∧ Below w.heap.size w wr

set_option maxHeartbeats 4000000 in
set_option maxRecDepth 100000 in
theorem rvec8_c (S : Nat → Prop) (p : Option Addr) (n c : Nat) (l : List UInt8) (W : Nat) (w : World) (hR : Rd w S p l) (hp : p = none → c = 0) (hl : l.length + 4 ≤ 140737488355328) (hm : l.length = n) (hW : W = 1 ∨ W = 2) :
    Calls Try.prog 41 #[.slice p n c, .int .i64 (W : Int)] w (PutYes w (be n W ++ l)) := by
  suffices H : ∀ V, V = W → Calls Try.prog 41 #[.slice p n c, .int .i64 (W : Int)] w (PutYes w (be n V ++ l)) from H W rfl
  intro V hV
  have hV4 : 1 ≤ V ∧ V ≤ 2 := by omega
  have hn4 : n ≤ 140737488355328 := by omega
  have HR := Lib.hid (And.intro hR (And.intro hp hm))
  clear hR hp hm
  rcases hW with rfl | rfl
  · show Calls Try.prog 41 #[.slice p n c, .int .i64 1] w (PutYes w (be n V ++ l))
    go_enter Try.func41, Try.ntmps41
    go_wp2
    go_loopw [5, 6] (fun v5 v6 wr => VRel w n V v5 v6 wr) (fun _ v6 _ => (intOf v6 + 1).toNat)
    case atStart => exact ⟨V, _, w.heap.size, [], rfl, by omega, by omega, Nat.le_refl _, by omega, Own.nil _ _, by simp, Below.refl _ _⟩
    case round =>
      obtain ⟨k, z, g, dn, rfl, hz, hk, hg, hgl, hO, hdn, hB⟩ := hrel
      have HO := Lib.hid hO
      have HDN := Lib.hid hdn
      have HBB := Lib.hid hB
      have hdl : dn.length + k ≤ 2 := by
        have := congrArg List.length hdn
        rw [List.length_append, be_length, be_length] at this
        omega
      have hs : w.heap.size ≤ wr.heap.size := hB.size
      clear hO hdn hB
      by_cases hk0 : k = 0
      · subst hk0
        obtain rfl : z = -1 := by omega
        clear hz hk
        have hd : dn = be n V := by have := HDN.out; simpa [be] using this
        subst hd
        clear HDN
        have hRr := HR.out.1.below HBB.out
        have HRr := Lib.hid hRr
        clear hRr
        go_wp2_with (at_builtin; refine wpList_append_bytes _ rfl _ _ 23 rfl Try.underlying23 Try.info5 g u5 (be n V) rfl HO.out S p n c l rfl HR.out.2.2 HR.out.2.1 HRr.out (by rw [be_length]; omega) ?_; intro g' v' w' hO' hg' ho' hnil; have H9 := Lib.hid (And.intro hO' (And.intro hg' (And.intro ho' hnil))); clear hO' hg' ho' hnil)
        go_ret
        have hnn : v' ≠ .slice none 0 0 := by
          intro e
          have h := H9.out.1.form
          rw [e] at h
          obtain ⟨_, _, h1, _⟩ := h
          simp at h1
          have h3 := h1.2.1
          rw [be_length] at h3
          omega
        obtain ⟨c', rfl, h1, h2, h3⟩ := H9.out.1.shape hnn
        have hsz := H9.out.2.2.1.size
        refine ⟨g', _, c', rfl, rfl, by rcases H9.out.2.1 with h | h <;> omega, h3, h1, h2, H9.out.1, below_only HBB.out hs H9.out.2.2.1 (by intro k hk e; omega)⟩
      · obtain ⟨j, rfl⟩ : ∃ j, k = j + 1 := ⟨k - 1, by omega⟩
        have hj : (j = 0 ∧ z = 0) ∨ (j = 1 ∧ z = 1) := by omega
        have HK := Lib.hid hk
        clear hk
        rcases hj with ⟨hj, rfl⟩ | ⟨hj, rfl⟩
        all_goals
          clear hz
          have HJ := Lib.hid hj
          clear hj
          go_wp2_with (at_builtin; refine wpList_append_row rfl _ _ 23 rfl 5 (.int .u8 0) 1 1 Try.underlying23 Try.info5 rfl (by decide) g u5 dn.length (dn.map B8) rfl (Row.only HO.out ((Only.refl (fun _ => False) wr).alloc _) (fun h => h)) ⟨wr.heap.size, 0, none⟩ 1 1 [_] rfl rfl (cell_one wr _ _) (by simp [Value.oneCell']) (by simp only [maxLen]; omega) (by omega) (wr.heap.size + 1) (by simp) ?_; intro gB' v7' w7 hrow hg' hO7)
          have z7 := hO7.size
          simp only [World.size_alloc] at z7
          have hb7 := below_only (HBB.out.alloc HBB.out.size _) (by simp; have := HBB.out.size; omega) hO7 (by intro k hk e; omega)
          obtain ⟨_, _, _, hf, _⟩ := Row.form hrow
          refine ⟨⟨j, _, gB', dn ++ [UInt8.ofNat (n / 256 ^ j)], rfl, by have := HJ.out; omega, by have := HK.out; omega, by omega, fun _ => (hf (by omega)).2, ?_, by rw [List.append_assoc]; exact HDN.out, hb7⟩, by simp [intOf]⟩
          refine own_snoc _ hrow ?_
          rw [HJ.out, UInt8.toNat_ofNat']
          omega
  · show Calls Try.prog 41 #[.slice p n c, .int .i64 2] w (PutYes w (be n V ++ l))
    go_enter Try.func41, Try.ntmps41
    go_wp2
    go_loopw [5, 6] (fun v5 v6 wr => VRel w n V v5 v6 wr) (fun _ v6 _ => (intOf v6 + 1).toNat)
    case atStart => exact ⟨V, _, w.heap.size, [], rfl, by omega, by omega, Nat.le_refl _, by omega, Own.nil _ _, by simp, Below.refl _ _⟩
    case round =>
      obtain ⟨k, z, g, dn, rfl, hz, hk, hg, hgl, hO, hdn, hB⟩ := hrel
      have HO := Lib.hid hO
      have HDN := Lib.hid hdn
      have HBB := Lib.hid hB
      have hdl : dn.length + k ≤ 2 := by
        have := congrArg List.length hdn
        rw [List.length_append, be_length, be_length] at this
        omega
      have hs : w.heap.size ≤ wr.heap.size := hB.size
      clear hO hdn hB
      by_cases hk0 : k = 0
      · subst hk0
        obtain rfl : z = -1 := by omega
        clear hz hk
        have hd : dn = be n V := by have := HDN.out; simpa [be] using this
        subst hd
        clear HDN
        have hRr := HR.out.1.below HBB.out
        have HRr := Lib.hid hRr
        clear hRr
        go_wp2_with (at_builtin; refine wpList_append_bytes _ rfl _ _ 23 rfl Try.underlying23 Try.info5 g u5 (be n V) rfl HO.out S p n c l rfl HR.out.2.2 HR.out.2.1 HRr.out (by rw [be_length]; omega) ?_; intro g' v' w' hO' hg' ho' hnil; have H9 := Lib.hid (And.intro hO' (And.intro hg' (And.intro ho' hnil))); clear hO' hg' ho' hnil)
        go_ret
        have hnn : v' ≠ .slice none 0 0 := by
          intro e
          have h := H9.out.1.form
          rw [e] at h
          obtain ⟨_, _, h1, _⟩ := h
          simp at h1
          have h3 := h1.2.1
          rw [be_length] at h3
          omega
        obtain ⟨c', rfl, h1, h2, h3⟩ := H9.out.1.shape hnn
        have hsz := H9.out.2.2.1.size
        refine ⟨g', _, c', rfl, rfl, by rcases H9.out.2.1 with h | h <;> omega, h3, h1, h2, H9.out.1, below_only HBB.out hs H9.out.2.2.1 (by intro k hk e; omega)⟩
      · obtain ⟨j, rfl⟩ : ∃ j, k = j + 1 := ⟨k - 1, by omega⟩
        have hj : (j = 0 ∧ z = 0) ∨ (j = 1 ∧ z = 1) := by omega
        have HK := Lib.hid hk
        clear hk
        rcases hj with ⟨hj, rfl⟩ | ⟨hj, rfl⟩
        all_goals
          clear hz
          have HJ := Lib.hid hj
          clear hj
          go_wp2_with (at_builtin; refine wpList_append_row rfl _ _ 23 rfl 5 (.int .u8 0) 1 1 Try.underlying23 Try.info5 rfl (by decide) g u5 dn.length (dn.map B8) rfl (Row.only HO.out ((Only.refl (fun _ => False) wr).alloc _) (fun h => h)) ⟨wr.heap.size, 0, none⟩ 1 1 [_] rfl rfl (cell_one wr _ _) (by simp [Value.oneCell']) (by simp only [maxLen]; omega) (by omega) (wr.heap.size + 1) (by simp) ?_; intro gB' v7' w7 hrow hg' hO7)
          have z7 := hO7.size
          simp only [World.size_alloc] at z7
          have hb7 := below_only (HBB.out.alloc HBB.out.size _) (by simp; have := HBB.out.size; omega) hO7 (by intro k hk e; omega)
          obtain ⟨_, _, _, hf, _⟩ := Row.form hrow
          refine ⟨⟨j, _, gB', dn ++ [UInt8.ofNat (n / 256 ^ j)], rfl, by have := HJ.out; omega, by have := HK.out; omega, by omega, fun _ => (hf (by omega)).2, ?_, by rw [List.append_assoc]; exact HDN.out, hb7⟩, by simp [intOf]⟩
          refine own_snoc _ hrow ?_
          rw [HJ.out, UInt8.toNat_ofNat']
          omega

theorem vec1_c (S : Nat → Prop) (p : Option Addr) (n c : Nat) (l : List UInt8) (w : World) (hR : Rd w S p l) (hp : p = none → c = 0) (hl : l.length + 4 ≤ 140737488355328) (hm : l.length = n) :
    Calls Try.prog 41 #[.slice p n c, .int .i64 1] w (PutYes w (be n 1 ++ l)) := rvec8_c S p n c l 1 w hR hp hl hm (.inl rfl)
theorem vec2_c (S : Nat → Prop) (p : Option Addr) (n c : Nat) (l : List UInt8) (w : World) (hR : Rd w S p l) (hp : p = none → c = 0) (hl : l.length + 4 ≤ 140737488355328) (hm : l.length = n) :
    Calls Try.prog 41 #[.slice p n c, .int .i64 2] w (PutYes w (be n 2 ++ l)) := rvec8_c S p n c l 2 w hR hp hl hm (.inr rfl)
theorem wext_len (kind : Int) (n : Nat) (l : List UInt8) : (u16L kind ++ (be n 2 ++ l)).length = l.length + 4 := by simp [u16L, be_length]; omega
theorem own_ne {w : World} {g : Nat} {v : Value} {l : List UInt8} (h : Own w g v l) (hl : 0 < l.length) : v ≠ .slice none 0 0 := by
  intro e
  obtain ⟨_, _, h1, _⟩ := h.form
  rw [e] at h1
  simp at h1
  omega
theorem PutYes.of {w w' : World} {g : Nat} {v : Value} {l : List UInt8} (h : Own w' g v l) (hl : 0 < l.length) (hg : w.heap.size ≤ g) (hb : Below w.heap.size w w') : PutYes w l (.returned v) w' := by
  obtain ⟨c', rfl, h1, h2, h3⟩ := h.shape (own_ne h hl)
  exact ⟨g, _, c', rfl, rfl, hg, h3, h1, h2, h, hb⟩

set_option maxHeartbeats 4000000 in
set_option maxRecDepth 100000 in
theorem rext_c (kind : Int) (S : Nat → Prop) (p : Option Addr) (n c : Nat) (l : List UInt8) (w : World) (hR : Rd w S p l) (hp : p = none → c = 0) (hl : l.length + 8 ≤ 140737488355328) (hm : l.length = n) :
    Calls Try.prog 39 #[.int .i64 kind, .slice p n c] w (PutYes w (u16L kind ++ (be n 2 ++ l))) := by
  have HR := Lib.hid (And.intro hR (And.intro hp hm))
  clear hR hp hm
  go_enter Try.func39, Try.ntmps39
  go_wp2_with (first
    | (go_at_call 40; refine (u16_c kind _).mono ?_; rintro e w1 ⟨g1, n1, c1, rfl, l1, h1, h2, h3, h4, h5, h6⟩; have H1 := Lib.hid (And.intro l1 (And.intro h5 h6)); clear l1 h5 h6)
    | (go_at_call 41; refine (vec2_c S p n c l _ (HR.out.1.below H1.out.2.2) HR.out.2.1 (by omega) HR.out.2.2).mono ?_; rintro e w2 ⟨g2, n2, c2, rfl, l2, k1, k2, k3, k4, k5, k6⟩; have H2 := Lib.hid (And.intro l2 (And.intro k5 (And.intro k6 (Own.keep H1.out.2.1 k6)))); clear l2 k5 k6)
    | (at_builtin; refine wpList_append_bytes _ rfl _ _ 23 rfl Try.underlying23 Try.info5 g1 _ (u16L kind) rfl H2.out.2.2.2 (fun k => k = g2) _ n2 c2 (be n 2 ++ l) rfl H2.out.1 (by intro h; cases h) H2.out.2.1.rd (by simp [u16L, be_length]; omega) ?_; intro g' v' w' hO' hg' ho' hnil; have H9 := Lib.hid (And.intro hO' (And.intro hg' ho')); clear hO' hg' ho' hnil))
  go_ret
  have hs := H1.out.2.2.size
  have hs2 := H2.out.2.2.1.size
  refine PutYes.of H9.out.1 (by rw [wext_len]; omega) (by rcases H9.out.2.1 with h | h <;> omega) (below_only (H1.out.2.2.trans (H2.out.2.2.1.mono hs)) (by omega) H9.out.2.2 (by intro k hk e; omega))

def shareB (g : Int) (n : Nat) : Bool := (decide (0 ≤ g) && decide (g ≤ 65535)) && (decide (1 ≤ n) && decide (n ≤ 64))
theorem rshare_c (g : Int) (p : Option Addr) (n c : Nat) (w : World) : Calls Try.prog 38 #[.agg #[.int .i64 g, .slice p n c]] w fun e w' => e = .returned (.bool (shareB g n)) ∧ Below w.heap.size w w' := by
  have hbx := Box2.new w 25 (.int .i64 g) (.slice p n c)
  have hB0 : Below w.heap.size w (w.alloc (.cells #[.int .i64 g, .slice p n c] 25)) := (Below.refl _ _).alloc (Nat.le_refl _) _
  have c0 := hbx.c0
  have c1 := hbx.c1
  have HB := Lib.hid hB0
  clear hbx hB0
  go_enter Try.func38, Try.ntmps38
  go_wp2
  all_goals go_ret
  all_goals (refine ⟨congrArg Ending.returned (congrArg Value.bool ?_), HB.out⟩; unfold shareB; rw [Bool.eq_iff_iff]; simp only [Bool.and_eq_true, decide_eq_true_eq, Bool.false_eq_true, false_iff]; omega)

/-- Values that lie somewhere. -/
def RdV (w : World) (S : Nat → Prop) (p : Option Addr) (l : List Value) : Prop := ∀ i (h : i < l.length), ∃ a, p = some a ∧ S a.block ∧ w.cell? (a.add i) = some l[i]
theorem RdV.nil (w : World) (S : Nat → Prop) (p : Option Addr) : RdV w S p [] := fun i h => absurd h (by simp)
theorem RdV.none_nil {w : World} {S : Nat → Prop} {l : List Value} (h : RdV w S none l) : l = [] := by
  cases l with
  | nil => rfl
  | cons b r => obtain ⟨a, ha, _⟩ := h 0 (by simp); cases ha
theorem RdV.kept {w w' : World} {S : Nat → Prop} {p : Option Addr} {l : List Value} (h : RdV w S p l) (hk : ∀ k, k < w.heap.size → S k → w'.heap[k]? = w.heap[k]?) : RdV w' S p l := by
  intro i hi
  obtain ⟨a, rfl, hs, hc⟩ := h i hi
  refine ⟨a, rfl, hs, ?_⟩
  have hlt : a.block < w.heap.size := by have := World.block_lt_of_cell? w _ hc; rwa [add_block] at this
  exact (World.cell?_of_block (w := w) (w' := w') (by rw [add_block]; exact hk a.block hlt hs)).trans hc
theorem RdV.only {w w' : World} {S r : Nat → Prop} {p : Option Addr} {l : List Value} (h : RdV w S p l) (ho : Only r w w') (hd : ∀ k, S k → ¬ r k) : RdV w' S p l := h.kept fun k hk hs => ho.block k hk (hd k hs)
theorem RdV.below {w w' : World} {S : Nat → Prop} {p : Option Addr} {l : List Value} (h : RdV w S p l) (ho : Below w.heap.size w w') : RdV w' S p l := h.kept fun k hk _ => ho.block k hk
theorem RdV.mono {w : World} {S T : Nat → Prop} {p : Option Addr} {l : List Value} (h : RdV w S p l) (hd : ∀ k, k < w.heap.size → S k → T k) : RdV w T p l := by
  intro i hi
  obtain ⟨a, rfl, hs, hc⟩ := h i hi
  exact ⟨a, rfl, hd _ (by have := World.block_lt_of_cell? w _ hc; rwa [add_block] at this) hs, hc⟩
theorem RdV.at {w : World} {S : Nat → Prop} {p : Option Addr} {l : List Value} (h : RdV w S p l) (hne : 0 < l.length) :
    ∃ g o, p = some ⟨g, o, none⟩ ∧ S g ∧ g < w.heap.size ∧ ∀ i (h : i < l.length), w.cell? ⟨g, o + i, none⟩ = some l[i] := by
  obtain ⟨⟨g, o, s⟩, rfl, hS, hc⟩ := h 0 hne
  have hs : s = none := by simpa [Addr.add] using World.cell?_spot hc
  subst hs
  refine ⟨g, o, rfl, hS, by have := World.block_lt_of_cell? w _ hc; simpa [Addr.add] using this, fun i hi => ?_⟩
  obtain ⟨a, ha, _, hc'⟩ := h i hi
  cases ha
  simp only [Addr.add] at hc'
  split at hc'
  · subst_vars; exact hc'
  · exact hc'
/-- A number as a cell. -/
abbrev I64 (n : Int) : Value := .int .i64 n
def RdI (w : World) (S : Nat → Prop) (p : Option Addr) (l : List Int) : Prop := RdV w S p (l.map I64)
theorem RdI.at {w : World} {S : Nat → Prop} {p : Option Addr} {l : List Int} (h : RdI w S p l) (hne : 0 < l.length) :
    ∃ g o, p = some ⟨g, o, none⟩ ∧ S g ∧ g < w.heap.size ∧ ∀ i (h : i < l.length), w.cell? ⟨g, o + i, none⟩ = some (.int .i64 l[i]) := by
  obtain ⟨g, o, h1, h2, h3, h4⟩ := RdV.at h (by simpa using hne)
  exact ⟨g, o, h1, h2, h3, fun i hi => by have := h4 i (by simpa using hi); simpa using this⟩

def in16 (x : Int) : Bool := decide (0 ≤ x) && decide (x ≤ 65535)
def all16B (l : List Int) (most : Int) : Bool := l.all in16 && decide ((l.length : Int) ≤ most)
theorem all_take_succ {α : Type} (f : α → Bool) (l : List α) (i : Nat) (h : i < l.length) : (l.take (i + 1)).all f = ((l.take i).all f && f l[i]) := by
  rw [List.take_succ_eq_append_getElem h, List.all_append]
  simp
theorem all_of_not {α : Type} (f : α → Bool) (l : List α) (i : Nat) (h : i < l.length) (hf : f l[i] = false) : l.all f = false := by
  rw [List.all_eq_false]
  exact ⟨l[i], List.getElem_mem h, by simp [hf]⟩
set_option maxHeartbeats 4000000 in
set_option maxRecDepth 100000 in
theorem all16_c (S : Nat → Prop) (p : Option Addr) (n c : Nat) (l : List Int) (most : Int) (w : World) (hR : RdI w S p l) (hm : l.length = n) (hn : n ≤ 140737488355328) : Calls Try.prog 36 #[.slice p n c, .int .i64 most] w fun e w' => e = .returned (.bool (all16B l most)) ∧ w = w' := by
  subst hm
  have HR := Lib.hid hR
  clear hR
  obtain ⟨r, hr⟩ : ∃ r, r = all16B l most := ⟨_, rfl⟩
  rw [← hr]
  have HX := Lib.hid hr
  clear hr
  go_enter Try.func36, Try.ntmps36
  go_wp2
  go_loop [5] (fun v5 => ∃ i : Nat, i ≤ l.length ∧ v5 = .int .i64 (i : Int) ∧ (l.take i).all in16 = true) (fun v5 => (l.length - (intOf v5).toNat))
  case atStart => exact ⟨0, by omega, rfl, rfl⟩
  case round =>
    obtain ⟨i, hi, rfl, hal⟩ := hrel
    have HA := Lib.hid hal
    clear hal
    by_cases hlt : i < l.length
    · obtain ⟨g, o, rfl, -, hg, hc⟩ := HR.out.at (by omega)
      have hci := hc i hlt
      have hts := all_take_succ in16 l i hlt
      have hno := all_of_not in16 l i hlt
      obtain ⟨x, hx⟩ : ∃ x, x = l[i] := ⟨_, rfl⟩
      rw [← hx] at hci hts hno
      have HT := Lib.hid (And.intro hts hno)
      clear hts hno hx hc
      have HLT := Lib.hid hlt
      by_cases h1 : x < 0
      · have hf : in16 x = false := by unfold in16; simp; omega
        have HF := Lib.hid (HT.out.2 hf)
        clear hf
        go_wp2
        go_ret
        refine ⟨congrArg Ending.returned (congrArg Value.bool ?_), rfl⟩
        rw [HX.out]; unfold all16B; rw [HF.out]; rfl
      · by_cases h2 : 65535 < x
        · have hf : in16 x = false := by unfold in16; simp; omega
          have HF := Lib.hid (HT.out.2 hf)
          clear hf
          go_wp2
          go_ret
          refine ⟨congrArg Ending.returned (congrArg Value.bool ?_), rfl⟩
          rw [HX.out]; unfold all16B; rw [HF.out]; rfl
        · have hf : in16 x = true := by unfold in16; simp; omega
          have HF := Lib.hid hf
          clear hf
          go_wp2
          go_round
          case rel => exact ⟨i + 1, by have := HLT.out; omega, by go_num, by rw [HT.out.1, HA.out, HF.out]; rfl⟩
          case measure => have := HLT.out; simp [intOf]; omega
    · obtain rfl : i = l.length := by omega
      have hl : l.take l.length = l := List.take_length
      have HL := Lib.hid hl
      clear hl
      go_wp2
      go_ret
      refine ⟨congrArg Ending.returned (congrArg Value.bool ?_), rfl⟩
      have h := HA.out
      rw [HL.out] at h
      rw [HX.out]; unfold all16B; rw [h]; rfl
end Go.Proofs.Ytegmimnhkohaoaa
