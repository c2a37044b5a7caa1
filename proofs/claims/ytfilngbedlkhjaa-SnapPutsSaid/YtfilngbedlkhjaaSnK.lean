/-
  The law's own snaps tells true; what Get tells of a State's bytes, for the laws. Conditions: those of each theorem.
-/
import Derived.Test.YtfilngbedlkhjaaSnJ
namespace Go.Proofs.Ytfilngbedlkhjaa
open Go.RowKit Go.Kx
set_option linter.unusedVariables false
set_option linter.unusedSimpArgs false

theorem full_getE {s s' : St} {v ver sealed : Nat} {y : RS} (hs : okS s) (hm : s.sm.length = 224) (hv : 1 ≤ v ∧ v ≤ 3) (h : Go1 (snB s v) ver s' sealed y) : getE s' sealed y = 0 ∧ s' = upS s v ∧ ver = v := by
  obtain ⟨h1, h2, rfl, rfl⟩ := get_full hs hm hv h
  refine ⟨?_, rfl, h1⟩
  unfold getE
  rw [if_neg (by simp [doneS]), if_neg (by intro h; rcases h with h | h; omega; exact h (upS_ok hs v))]
theorem snB_len (s : St) (v : Nat) (hm : s.sm.length = 224) : (snB s v).length = 237 + s.lg.length + s.pt.length + (if 2 ≤ v then 1 + s.us.length else 0) + (if 3 ≤ v then 2 else 0) := by
  unfold snB bdB usB alB
  simp only [List.length_append, be_length, hm]
  split <;> split <;> simp only [List.length_append, be_length, List.length_nil] <;> omega
theorem nSt_ok : okS nSt := by decide
theorem nSt_is (w : World) : IsSt w nC nSt := ⟨_, _, _, nC_ok, Sl.nil _, Sl.nil _, Sl.nil _⟩

/-- What Get tells of a State's bytes. -/
def GetY (w : World) (s : St) (v : Nat) (e : Ending) (w' : World) : Prop := ∃ C, e = .returned (.tuple #[.agg C, .int .i64 (v : Int), .int .i64 0]) ∧ IsSt w' C (upS s v) ∧ Below w.heap.size w w'
theorem get_y (S : Nat → Prop) (p : Option Addr) (n c : Nat) (s : St) (v : Nat) (w : World) (hR : Rd w S p (snB s v)) (hp : p = none → c = 0) (hl : (snB s v).length ≤ 140737488355328) (hn : (snB s v).length = n) (hs : okS s) (hm : s.sm.length = 224) (hv : 1 ≤ v ∧ v ≤ 3) :
    Calls Try.prog 10 #[.slice p n c] w (GetY w s v) := by
  refine (get_c S p n c (snB s v) w hR hp hl hn).mono ?_
  rintro e w1 ⟨ver, sealed, s', y, C, x, h1, h2, rfl, h3, h4, h5⟩
  obtain ⟨g1, rfl, rfl⟩ := full_getE hs hm hv h1
  rw [g1, if_pos rfl] at h3
  rw [g1, if_pos rfl] at h4
  rw [g1]
  subst h3
  exact ⟨C, rfl, h4, h5⟩
/-- What Get tells of bytes that are none's. -/
def GetN (w : World) (er : Int) (e : Ending) (w' : World) : Prop := ∃ C, e = .returned (.tuple #[.agg C, .int .i64 0, .int .i64 er]) ∧ IsSt w' C zSt ∧ Below w.heap.size w w'
theorem get_n (S : Nat → Prop) (p : Option Addr) (n c : Nat) (L : List UInt8) (er : Int) (w : World) (hR : Rd w S p L) (hp : p = none → c = 0) (hl : L.length ≤ 140737488355328) (hn : L.length = n) (he : er ≠ 0)
    (hg : ∀ ver sealed s' y, Go1 L ver s' sealed y → getE s' sealed y = er) : Calls Try.prog 10 #[.slice p n c] w (GetN w er) := by
  refine (get_c S p n c L w hR hp hl hn).mono ?_
  rintro e w1 ⟨ver, sealed, s', y, C, x, h1, h2, rfl, h3, h4, h5⟩
  have g1 := hg _ _ _ _ h1
  rw [g1, if_neg he] at h3
  rw [g1, if_neg he] at h4
  rw [g1]
  subst h3
  exact ⟨C, rfl, h4, h5⟩

set_option maxHeartbeats 4000000 in
set_option maxRecDepth 100000 in
theorem snaps_c (w : World) : Calls Try.prog 6 #[] w fun e w' => e = .returned (.bool true) ∧ Below w.heap.size w w' := by
  have hz := run_zeroS
  have hlen : (snB nSt 1).length = 237 := by rw [snB_len nSt 1 (by kernel_rfl)]; rfl
  obtain ⟨X, hX⟩ : ∃ X, X = snB nSt 1 := ⟨_, rfl⟩
  have HX := Lib.hid (And.intro hX hlen)
  clear hlen hX
  go_enter Try.func6, Try.ntmps6
  go_wp2_with (first
    | (go_at_call 16; refine (snew_c _).mono ?_; rintro e w1 ⟨rfl, b1⟩)
    | (go_at_call 8; refine (sput_yes nSt nC 1 _ (nSt_is _) nSt_ok (by omega)).mono ?_; rintro e w2 ⟨g, n, c, rfl, k1, k2, k3, k4, k5, k6, k7⟩; rw [HX.out.2] at k1; subst k1; have HK := Lib.hid (And.intro k6 (b1.trans (k7.mono b1.size))); clear b1 k6 k7)
    | (go_at_call 10; refine (get_y (· = g) _ _ _ nSt 1 _ HK.out.1.rd (by intro h; cases h) (by rw [HX.out.2]; omega) HX.out.2 nSt_ok (by kernel_rfl) (by omega)).mono ?_; rintro e w3 ⟨C, rfl, h4, h5⟩; have HB := Lib.hid (And.intro (stored (t := 35) h4) (And.intro h4.sz (And.intro h4.one h5))); have hc := setRow_heap (w3.alloc (.cells zC 35)) w3.heap.size zC C 35 (0, 0) (heap_alloc_new w3 _); obtain ⟨_, _, _, hC, _⟩ := id h4; obtain ⟨-, -, -, -, -, -, -, -, -, e9⟩ := blk_cells hc hC; clear h4 h5 hC hc)
    | (refine wpList_store_row rfl 35 (.tmp 3) (.tmp 14) rfl w3.heap.size C rfl rfl 35 zC (heap_alloc_new w3 _) (by rw [HB.out.2.1]; exact Try.infoS) (by rw [HB.out.2.1, zC_size]) HB.out.2.2.1 ?_))
  go_ret
  exact ⟨congrArg Ending.returned (congrArg Value.bool (by rfl)), HK.out.2.trans ((HB.out.2.2.2.trans (HB.out.1.2.2.mono HB.out.2.2.2.size)).mono HK.out.2.size)⟩
end Go.Proofs.Ytfilngbedlkhjaa
