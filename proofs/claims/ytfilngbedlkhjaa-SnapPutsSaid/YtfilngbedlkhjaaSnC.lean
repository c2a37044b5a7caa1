/-
  The contracts of snap.sums and of the two Puts. Conditions: the State's bytes lie still.
-/
import Derived.Test.YtfilngbedlkhjaaSnB
import Derived.Test.YtfilngbedlkhjaaSnRead
import Derived.Test.YtfilngbedlkhjaaStr
import Derived.BigRegion
import Derived.Deep.RegionHeld3
import Derived.Deep.CutBlock
import Derived.Deep.CutRange
namespace Go.Proofs.Ytfilngbedlkhjaa
open Go.RowKit Go.Kx
set_option linter.unusedVariables false
set_option linter.unusedSimpArgs false

/-- Where a State's seven sums lie. -/
def SumsR (r : Nat) (w : World) (e : Ending) (w' : World) : Prop := ∃ g, e = .returned (.slice (some ⟨g, 0, none⟩) 7 7) ∧ w.heap.size ≤ g ∧ g < w'.heap.size ∧ (∀ i, i < 7 → w'.cell? ⟨g, i, none⟩ = some (.pointer (some ⟨r, 2 + 32 * i, none⟩))) ∧ Below w.heap.size w w'

set_option maxHeartbeats 4000000 in
set_option maxRecDepth 100000 in
theorem sums_c (r : Nat) (w : World) : Calls Try.prog 19 #[rp r] w (SumsR r w) := by
  go_enter Try.func19, Try.ntmps19
  go_wp2
  go_region
  go_wp2
  go_ret
  refine ⟨w.heap.size, rfl, Nat.le_refl _, by simp [World.drew], ?_, ((Below.refl _ _).alloc (Nat.le_refl _) _).drew⟩
  intro i hi
  rw [show ∀ (v : World) p, v.drew.cell? p = v.cell? p from fun _ _ => rfl, World.cell?_alloc_at _ _ _ _ rfl]
  have h7 : i = 0 ∨ i = 1 ∨ i = 2 ∨ i = 3 ∨ i = 4 ∨ i = 5 ∨ i = 6 := by omega
  rcases h7 with rfl | rfl | rfl | rfl | rfl | rfl | rfl <;> rfl

/-- What is put yet: bytes of the call's own, n of them; the State's block stands by. -/
structure Bf (w0 : World) (r : Nat) (t : TypeId) (C : Array Value) (wx : World) (g n c : Nat) (l : List UInt8) : Prop where
  blk : wx.heap[r]? = some (.cells C t (0, 0))
  bel : Below w0.heap.size w0 wx
  own : Own wx g (.slice (some ⟨g, 0, none⟩) n c) l
  len : l.length = n
  rge : w0.heap.size ≤ r
  gge : w0.heap.size ≤ g
  glt : g < wx.heap.size
  gne : g ≠ r
  cap : n ≤ c
  cam : c ≤ maxLen
theorem Bf.step {w0 wx w' : World} {r g n c g' n' c' : Nat} {t : TypeId} {C : Array Value} {l l' : List UInt8} (h : Bf w0 r t C wx g n c l) (hb : Below wx.heap.size wx w') (h1 : wx.heap.size ≤ g') (hl : l'.length = n') (h2 : g' < w'.heap.size) (h3 : n' ≤ c') (h4 : c' ≤ maxLen) (ho : Own w' g' (.slice (some ⟨g', 0, none⟩) n' c') l') : Bf w0 r t C w' g' n' c' l' := by
  have hr : r < wx.heap.size := (Array.getElem?_eq_some_iff.1 h.blk).1
  exact ⟨(hb.block r hr).trans h.blk, h.bel.trans (hb.mono h.bel.size), ho, hl, h.rge, Nat.le_trans h.bel.size h1, h2, by omega, h3, h4⟩
theorem Bf.below {w0 wx w' : World} {r g n c : Nat} {t : TypeId} {C : Array Value} {l : List UInt8} (h : Bf w0 r t C wx g n c l) (hb : Below wx.heap.size wx w') : Bf w0 r t C w' g n c l := by
  have hr : r < wx.heap.size := (Array.getElem?_eq_some_iff.1 h.blk).1
  exact ⟨(hb.block r hr).trans h.blk, h.bel.trans (hb.mono h.bel.size), Own.keep h.own hb, h.len, h.rge, h.gge, Nat.lt_of_lt_of_le h.glt hb.size, h.gne, h.cap, h.cam⟩
/-- append(b, x...) onto them. -/
theorem Bf.app {w0 wx w' : World} {r g n c g' : Nat} {t : TypeId} {C : Array Value} {l m : List UInt8} {v : Value} {P : Prop} (h : Bf w0 r t C wx g n c l) (hv : v = .slice none 0 0 ↔ Value.slice (some ⟨g, 0, none⟩) n c = .slice none 0 0 ∧ P ∨ Value.slice (some ⟨g, 0, none⟩) n c = .slice none 0 0 ∧ m = []) (ho : Own w' g' v (l ++ m)) (hg : g' = g ∨ g' = wx.heap.size) (hO : Only (· = g) wx w') :
    ∃ n' c', v = .slice (some ⟨g', 0, none⟩) n' c' ∧ n' ≤ n + m.length ∧ Bf w0 r t C w' g' n' c' (l ++ m) := by
  have hn0 : v ≠ .slice none 0 0 := fun e => by rcases hv.1 e with h | h <;> exact absurd h.1 (by intro h2; cases h2)
  obtain ⟨c', rfl, k1, k2, k3⟩ := ho.shape hn0
  have hr : r < wx.heap.size := (Array.getElem?_eq_some_iff.1 h.blk).1
  refine ⟨_, c', rfl, by rw [List.length_append, h.len]; omega, (hO.block r hr (by have := h.gne; omega)).trans h.blk, below_only h.bel h.bel.size hO (by intro k hk e; have := h.gge; omega), ho, rfl, h.rge, ?_, k3, ?_, k1, k2⟩
  · rcases hg with rfl | rfl
    · exact h.gge
    · exact h.bel.size
  · rcases hg with rfl | rfl
    · exact h.gne
    · omega

def SPutYes (w : World) (X : List UInt8) (e : Ending) (w' : World) : Prop := ∃ g n c, e = .returned (.tuple #[.slice (some ⟨g, 0, none⟩) n c, .int .i64 0]) ∧ X.length = n ∧ w.heap.size ≤ g ∧ g < w'.heap.size ∧ n ≤ c ∧ c ≤ maxLen ∧ Own w' g (.slice (some ⟨g, 0, none⟩) n c) X ∧ Below w.heap.size w w'
theorem Bf.done {w wx : World} {r g n c : Nat} {t : TypeId} {C : Array Value} {l X : List UInt8} (h : Bf w r t C wx g n c l) (hX : X = l) : SPutYes w X (.returned (.tuple #[.slice (some ⟨g, 0, none⟩) n c, .int .i64 0])) wx := by
  subst hX
  exact ⟨g, n, c, rfl, h.len, h.gge, h.glt, h.cap, h.cam, h.own, h.bel⟩

/-- What a call that puts more leaves. -/
def BufR (w0 : World) (r : Nat) (t : TypeId) (C : Array Value) (N : Nat) (l : List UInt8) (e : Ending) (w' : World) : Prop := ∃ g n c, e = .returned (.slice (some ⟨g, 0, none⟩) n c) ∧ n ≤ N ∧ Bf w0 r t C w' g n c l

theorem putU {w0 wx : World} {r g n c : Nat} {t : TypeId} {C : Array Value} {l : List UInt8} (h : Bf w0 r t C wx g n c l) (x y : Int) (hx : 0 ≤ x) (hy : 1 ≤ y ∧ y ≤ 4) (hk : x.toNat < 256 ^ y.toNat) (hn : n ≤ 100000) :
    Calls Try.prog 20 #[.slice (some ⟨g, 0, none⟩) n c, .int .i64 x, .int .i64 y] wx (BufR w0 r t C (n + 4) (l ++ be x.toNat y.toNat)) := by
  obtain ⟨k, rfl⟩ : ∃ k : Nat, x = k := ⟨x.toNat, by omega⟩
  obtain ⟨W, rfl⟩ : ∃ W : Nat, y = W := ⟨y.toNat, by omega⟩
  simp only [Int.toNat_natCast] at hk ⊢
  refine (put_yes (· = g) _ n c l k W wx h.own.rd (by intro h; cases h) (by rw [h.len]; omega) h.len (by omega) hk).mono ?_
  rintro e w' ⟨g', n', c', rfl, h1, h2, h3, h4, h5, h6, h7⟩
  exact ⟨g', n', c', rfl, by rw [← h1, List.length_append, be_length, h.len]; omega, h.step h7 h2 h1 h3 h4 h5 h6⟩
theorem putV {w0 wx : World} {r g n c : Nat} {t : TypeId} {C : Array Value} {l : List UInt8} (h : Bf w0 r t C wx g n c l) (S2 : Nat → Prop) (p2 : Option Addr) (n2 c2 : Nat) (v : List UInt8) (y : Int) (hy : 1 ≤ y ∧ y ≤ 4) (hv : v.length = n2) (hp2 : p2 = none → c2 = 0) (hR : Rd w0 S2 p2 v) (hk : n2 < 256 ^ y.toNat) (hn : n ≤ 100000) (hn2 : n2 ≤ 100000) :
    Calls Try.prog 18 #[.slice (some ⟨g, 0, none⟩) n c, .slice p2 n2 c2, .int .i64 y] wx (BufR w0 r t C (n + 4 + n2) (l ++ (be n2 y.toNat ++ v))) := by
  obtain ⟨W, rfl⟩ : ∃ W : Nat, y = W := ⟨y.toNat, by omega⟩
  simp only [Int.toNat_natCast] at hk ⊢
  refine (vec_yes (· = g) S2 _ p2 n c n2 c2 l v W wx h.own.rd (by intro h; cases h) h.len (hR.below h.bel) hp2 hv (by rw [h.len]; omega) (by omega) hk).mono ?_
  rintro e w' ⟨g', n', c', rfl, h1, h2, h3, h4, h5, h6, h7⟩
  rw [List.append_assoc] at h1 h6
  exact ⟨g', n', c', rfl, by rw [← h1, List.length_append, List.length_append, be_length, h.len, hv]; omega, h.step h7 h2 h1 h3 h4 h5 h6⟩
end Go.Proofs.Ytfilngbedlkhjaa
