/-
  The contract of Take for every list of bytes. Conditions: a Reader without an error, at most 2 to the 47th bytes.
-/
import Derived.Test.YtcgdeebjgcgepaaWalkB
import Derived.Test.YtcgdeebjgcgepaaWalkC
import Derived.Test.YtcgdeebjgcgepaaWalkE
import Derived.Test.YtcgdeebjgcgepaaWalkF
namespace Go.Proofs.Ytcgdeebjgcgepaa
open Go.RowKit Go.Kx

/-- What Take leaves. -/
def TakeP (w : World) (r g : Nat) (l : List UInt8) (e : Ending) (w' : World) : Prop :=
  (∀ E, takeS l = (E, none) → e = .returned (retE E) ∧ Rdr w' r g l E ∧ Only (· = r) w w') ∧
  (∀ k body rest, takeS l = (0, some (k, body, rest)) → ∃ g1 k1 g2, e = .returned (.tuple #[.int .i64 (k.toNat : Int), .slice (some ⟨g1, 0, none⟩) body.length k1, .bool true, .int .i64 0]) ∧
    Own w' g1 (.slice (some ⟨g1, 0, none⟩) body.length k1) body ∧ w.heap.size ≤ g1 ∧ g1 < w'.heap.size ∧ w.heap.size ≤ g2 ∧ g1 ≠ g2 ∧ Rdr w' r g2 rest 0 ∧ Only (· = r) w w')

theorem five_of {l : List UInt8} (h : ¬ l.length < 5) : ∃ a0 a1 a2 a3 a4 t, l = a0 :: a1 :: a2 :: a3 :: a4 :: t := by
  match l, h with
  | [], h => simp at h
  | [_], h => simp at h
  | [_, _], h => simp at h
  | [_, _, _], h => simp at h
  | [_, _, _, _], h => simp at h
  | a0 :: a1 :: a2 :: a3 :: a4 :: t, _ => exact ⟨a0, a1, a2, a3, a4, t, rfl⟩

theorem takeP_none {w : World} {r g : Nat} {l : List UInt8} {E : Int} {e : Ending} {w' : World} (ht : takeS l = (E, none)) (h1 : e = .returned (retE E)) (h2 : Rdr w' r g l E) (h3 : Only (· = r) w w') : TakeP w r g l e w' := by
  refine ⟨fun E' h => ?_, fun k body rest h => ?_⟩
  · rw [ht] at h; cases h; exact ⟨h1, h2, h3⟩
  · rw [ht] at h; cases h

theorem own_drewN {w : World} {n g : Nat} {v : Value} {l : List UInt8} (h : Own w g v l) : Own (w.drewN n) g v l := h.only ((Only.refl (fun _ => False) w).drewN n) (fun h => h)

theorem take_c (r g : Nat) (l : List UInt8) (w : World) (hr : Rdr w r g l 0) (hl : l.length ≤ 140737488355328) : Calls Try.prog 6 #[rp r] w (TakeP w r g l) := by
  obtain ⟨hne, p, c, hb, ho⟩ := hr
  have hrd := ho.rd
  obtain ⟨_, _, he, hlc, hcm, _, _, hpp⟩ := ho.form
  cases he
  have hErr : ∀ E, takeS l = (E, none) → ∀ e w', TakeErr w r (.slice p l.length c) E e w' → TakeP w r g l e w' := by
    rintro E ht e w' ⟨h1, h2, h3⟩
    exact takeP_none ht h1 ⟨hne, p, c, h2, ho.only h3 (fun e => hne e.symm)⟩ h3
  have hNo : takeS l = (0, none) → ∀ e w', TakeNo w e w' → TakeP w r g l e w' := by
    rintro ht e w' ⟨h1, n, rfl⟩
    exact takeP_none ht h1 ⟨hne, p, c, hb, own_drewN ho⟩ ((Only.refl _ _).drewN n)
  by_cases hbg : beganS l = false
  · have ht : takeS l = (3, none) := by
      unfold takeS
      split
      · rw [if_pos hbg]
      · rw [if_pos hbg]
    exact (take_form r c g _ p l w hb hrd hl rfl hbg).mono (hErr 3 ht)
  · have hbg' : beganS l = true := by simpa using hbg
    by_cases h5 : l.length < 5
    · have ht : takeS l = (0, none) := by rw [takeS_short h5, if_neg hbg]
      exact (take_short r c g _ p l w hb hrd hl rfl hbg' h5).mono (hNo ht)
    · obtain ⟨a0, a1, a2, a3, a4, t, rfl⟩ := five_of h5
      obtain ⟨g', o, rfl, hg', _, _⟩ := hrd.at (by simp)
      subst hg'
      obtain ⟨hoff, _⟩ := hpp _ rfl
      cases hoff
      by_cases hm : mostS a0 < a3.toNat * 256 + a4.toNat
      · have ht : takeS (a0 :: a1 :: a2 :: a3 :: a4 :: t) = (5, none) := by simp only [takeS]; rw [if_neg hbg, if_pos hm]
        exact (take_long r c g' 0 _ a0 a1 a2 a3 a4 t w hb hrd hl rfl hbg' hm).mono (hErr 5 ht)
      · by_cases hp : t.length < a3.toNat * 256 + a4.toNat
        · have ht : takeS (a0 :: a1 :: a2 :: a3 :: a4 :: t) = (0, none) := by simp only [takeS]; rw [if_neg hbg, if_neg hm, if_pos hp]
          exact (take_part r c g' 0 _ a0 a1 a2 a3 a4 t w hb hrd hl rfl hbg' (by omega) (by simp only [List.length_cons]; omega)).mono (hNo ht)
        · have ht : takeS (a0 :: a1 :: a2 :: a3 :: a4 :: t) = (0, some (a0, t.take (a3.toNat * 256 + a4.toNat), t.drop (a3.toNat * 256 + a4.toNat))) := by
            simp only [takeS]; rw [if_neg hbg, if_neg hm, if_neg hp]
          have hS : ∀ e w', TakeSome w r a0 (t.take (a3.toNat * 256 + a4.toNat)) (t.drop (a3.toNat * 256 + a4.toNat)) e w' → TakeP w r g' (a0 :: a1 :: a2 :: a3 :: a4 :: t) e w' := by
            rintro e w' ⟨g1, k1, g2, k2, h1, h2, h3, h4, h5, h6, h7, h8, h9, h10, h11, h12, h13, h14⟩
            refine ⟨fun E' h => ?_, fun k body rest h => ?_⟩
            · rw [ht] at h; cases h
            · rw [ht] at h
              cases h
              exact ⟨g1, k1, g2, h1, h2, h8, h9, h10, h12, ⟨by have := hb.lt; omega, _, k2, h13, h3⟩, h14⟩
          by_cases hc5 : c = 5
          · subst hc5
            obtain rfl : t = [] := List.eq_nil_of_length_eq_zero (by simp only [List.length_cons] at hlc; omega)
            have hz : a3.toNat * 256 + a4.toNat = 0 := by simp only [List.length_nil] at hp; omega
            refine (take_some_five r g' 0 a0 a1 a2 a3 a4 w hb hrd hbg' hz).mono fun e w' h => hS e w' ?_
            rw [hz]; exact h
          · exact (take_some_gen r c g' 0 _ a0 a1 a2 a3 a4 t w hb hrd hl rfl hbg' hc5 hlc (by omega) (by simp only [List.length_cons]; omega)).mono hS
end Go.Proofs.Ytcgdeebjgcgepaa
