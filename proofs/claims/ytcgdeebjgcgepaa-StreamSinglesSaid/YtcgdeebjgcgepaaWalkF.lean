/-
  The contracts of Feed, Left and New. Conditions: together at most 2 to the 47th bytes.
-/
import Derived.Test.YtcgdeebjgcgepaaWalkA
namespace Go.Proofs.Ytcgdeebjgcgepaa
open Go.RowKit Go.Kx

/-- A Reader in block r that has the bytes l (in block g, if there are any) and the error bad. -/
def Rdr (w : World) (r g : Nat) (l : List UInt8) (bad : Int) : Prop :=
  r ≠ g ∧ ∃ p c, Box2 w r 43 (.slice p l.length c) (.int .i64 bad) ∧ Own w g (.slice p l.length c) l

theorem Rdr.only {w w' : World} {q : Nat → Prop} {r g : Nat} {l : List UInt8} {bad : Int} (h : Rdr w r g l bad) (ho : Only q w w') (h1 : ¬ q r) (h2 : ¬ q g) : Rdr w' r g l bad := by
  obtain ⟨hne, p, c, hb, hw⟩ := h
  exact ⟨hne, p, c, hb.only ho h1, hw.only ho h2⟩

theorem feed_nil (v : Value) (w : World) : Calls Try.prog 8 #[.pointer none, v] w fun e w' => e = .returned (.int .i64 1) ∧ w = w' := by
  go_enter Try.func8, Try.ntmps8
  go_wp2
  go_ret
  exact ⟨rfl, rfl⟩

theorem feed_bad (r : Nat) (v x : Value) (bad : Int) (w : World) (hr : Box2 w r 43 v (.int .i64 bad)) (h : bad ≠ 0) :
    Calls Try.prog 8 #[rp r, x] w fun e w' => e = .returned (.int .i64 8) ∧ w = w' := by
  have c1 := hr.c1
  have hb : (bad != 0) = true := by simpa using h
  go_enter Try.func8, Try.ntmps8
  go_wp2
  go_ret
  exact ⟨rfl, rfl⟩

def FeedR (w : World) (r g : Nat) (l : List UInt8) (e : Ending) (w' : World) : Prop :=
  e = .returned (.int .i64 0) ∧ ∃ g', Rdr w' r g' l 0 ∧ (g' = g ∨ w.heap.size ≤ g') ∧ Only (fun k => k = r ∨ k = g) w w'

theorem feed_c (r g : Nat) (l : List UInt8) (S : Nat → Prop) (p : Option Addr) (n c : Nat) (x : List UInt8) (w : World) (hr : Rdr w r g l 0) (hx : Rd w S p x) (hn : x.length = n) (hp : p = none → c = 0) (hl : l.length + x.length ≤ 140737488355328) :
    Calls Try.prog 8 #[rp r, .slice p n c] w (FeedR w r g (l ++ x)) := by
  obtain ⟨hne, q, d, hb, ho⟩ := hr
  have c0 := hb.c0
  have c1 := hb.c1
  go_enter Try.func8, Try.ntmps8
  go_wp2_with (at_builtin; refine wpList_append_bytes _ rfl _ _ 22 rfl Try.underlying22 Try.info5 g _ l rfl ho S _ _ _ x rfl hn hp hx hl ?_)
  intro g' v' w' ho' hg' hg hnil
  clear hnil
  obtain ⟨q', d', rfl, _, _, _, _, _⟩ := ho'.form
  have hb' := hb.only hg hne
  have f0 := hb'.fr 0
  have e0 := hb'.c0
  have hrl := hb.lt
  have HG := Lib.hid hg'
  clear hg'
  go_wp2
  go_ret
  have hgs := hg.size
  have hG := HG.out
  have hlen : (l ++ x).length = l.length + n := by rw [List.length_append, hn]
  refine ⟨rfl, g', ⟨by omega, q', d', by rw [hlen]; exact hb'.set0 _, ho'.only ((Only.refl (fun k => k = r) w').setCell ⟨r, 0, none⟩ _ (.inl rfl)) (by omega)⟩, by omega, ?_⟩
  exact (hg.mono (fun _ _ h => .inr h)).setCell ⟨r, 0, none⟩ _ (.inl (.inl rfl))

theorem left_nil (w : World) : Calls Try.prog 9 #[.pointer none] w fun e w' => e = .returned (.slice none 0 0) ∧ w = w' := by
  go_enter Try.func9, Try.ntmps9
  go_wp2
  go_ret
  exact ⟨rfl, rfl⟩

/-- Some slice that is the call's own, new, with the bytes l: nil, or a new row. -/
def NewBytes (w : World) (l : List UInt8) (e : Ending) (w' : World) : Prop :=
  ∃ g p c, e = .returned (.slice p l.length c) ∧ w.heap.size ≤ g ∧ g ≠ w'.heap.size ∧ Own w' g (.slice p l.length c) l ∧ Below w.heap.size w w'

theorem clone_any (S : Nat → Prop) (p : Option Addr) (n c : Nat) (l : List UInt8) (w : World) (hn : Rd w S p l) (hp : p = none → c = 0) (hl : l.length ≤ 140737488355328) (hnl : l.length = n) :
    Calls Try.prog 14 #[.slice p n c] w (NewBytes w l) := by
  subst hnl
  cases p with
  | none =>
    have h0 := hn.none_nil
    subst h0
    rw [hp rfl]
    refine (clone_nil w).mono ?_
    rintro e w' ⟨rfl, rfl⟩
    exact ⟨w.heap.size + 1, none, 0, rfl, by omega, by omega, Own.nil _ _, Below.refl _ _⟩
  | some a =>
    refine (clone_c S a _ c l w hn hl rfl).mono ?_
    rintro e w' ⟨g, c', rfl, h1, h2, h3, h4, h5, h6⟩
    exact ⟨g, _, c', rfl, h1, by omega, h5, h6⟩

theorem left_c (r g : Nat) (l : List UInt8) (bad : Int) (w : World) (hr : Rdr w r g l bad) (hl : l.length ≤ 140737488355328) :
    Calls Try.prog 9 #[rp r] w (NewBytes w l) := by
  obtain ⟨hne, q, d, hb, ho⟩ := hr
  have c0 := hb.c0
  have hrd := ho.rd
  obtain ⟨_, _, he, _, _, _, hpn, _⟩ := ho.form
  cases he
  go_enter Try.func9, Try.ntmps9
  go_wp2_with (go_at_call 14; refine (clone_any (· = g) _ _ _ l _ hrd hpn hl rfl).mono ?_; rintro e w' ⟨g', p', c', rfl, h1, h2, h3, h4⟩)
  go_ret
  exact ⟨g', p', c', rfl, h1, h2, h3, h4⟩

def NewRdr (w : World) (l : List UInt8) (e : Ending) (w' : World) : Prop :=
  ∃ r g, e = .returned (rp r) ∧ w.heap.size ≤ r ∧ r < w'.heap.size ∧ w.heap.size ≤ g ∧ Rdr w' r g l 0 ∧ Below w.heap.size w w'

theorem new_c (S : Nat → Prop) (p : Option Addr) (n c : Nat) (l : List UInt8) (w : World) (hn : Rd w S p l) (hp : p = none → c = 0) (hl : l.length ≤ 140737488355328) (hnl : l.length = n) :
    Calls Try.prog 11 #[.slice p n c] w (NewRdr w l) := by
  go_enter Try.func11, Try.ntmps11
  go_wp2_with (go_at_call 14; refine (clone_any S _ _ _ l _ hn hp hl hnl).mono ?_; rintro e w' ⟨g', p', c', rfl, h1, h2, h3, h4⟩)
  go_ret
  have hlr := hnl
  subst hnl
  refine ⟨w'.heap.size, g', rfl, h4.size, by simp, h1, ⟨fun e => h2 e.symm, p', c', Box2.new _ _ _ _, h3.only (Only.alloc (Only.refl (fun _ => False) w') _) (fun h => h)⟩, h4.alloc h4.size _⟩

end Go.Proofs.Ytcgdeebjgcgepaa
