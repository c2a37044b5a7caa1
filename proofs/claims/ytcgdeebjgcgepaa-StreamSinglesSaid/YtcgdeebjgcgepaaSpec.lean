/-
  What one Take and all Takes say of bytes, as plain functions on lists, and how records lie in memory. No condition but those that each theorem states.
-/
import Derived.Test.YtcgdeebjgcgepaaBase
namespace Go.Proofs.Ytcgdeebjgcgepaa
open Go.RowKit Go.Kx

def beganS : List UInt8 → Bool
  | [] => true
  | [a] => decide (20 ≤ a.toNat ∧ a.toNat ≤ 23)
  | a :: b :: _ => decide ((20 ≤ a.toNat ∧ a.toNat ≤ 23) ∧ b.toNat = 3)
def mostS (k : UInt8) : Nat := if k.toNat = 23 then 273 else 256

/-- What one Take says of the bytes l: the error, and the record: its kind, its body, what is left. -/
def takeS : List UInt8 → Int × Option (UInt8 × List UInt8 × List UInt8)
  | a0 :: a1 :: a2 :: a3 :: a4 :: l =>
    if beganS (a0 :: a1 :: a2 :: a3 :: a4 :: l) = false then (3, none)
    else if mostS a0 < a3.toNat * 256 + a4.toNat then (5, none)
    else if l.length < a3.toNat * 256 + a4.toNat then (0, none)
    else (0, some (a0, l.take (a3.toNat * 256 + a4.toNat), l.drop (a3.toNat * 256 + a4.toNat)))
  | l => if beganS l = false then (3, none) else (0, none)

theorem takeS_lt {l : List UInt8} {e : Int} {k : UInt8} {body rest : List UInt8} (h : takeS l = (e, some (k, body, rest))) : rest.length + body.length + 5 = l.length := by
  unfold takeS at h
  split at h
  · split at h
    · cases h
    · split at h
      · cases h
      · split at h
        · cases h
        · simp only [Prod.mk.injEq, Option.some.injEq] at h
          obtain ⟨_, _, rfl, rfl⟩ := h
          simp only [List.length_drop, List.length_take, List.length_cons]
          omega
  · split at h <;> cases h

theorem takeS_short {l : List UInt8} (h : l.length < 5) : takeS l = if beganS l = false then (3, none) else (0, none) := by
  match l, h with
  | [], _ => rfl
  | [_], _ => rfl
  | [_, _], _ => rfl
  | [_, _, _], _ => rfl
  | [_, _, _, _], _ => rfl

/-- All records; what is left; the error. -/
def allN : Nat → List UInt8 → List (UInt8 × List UInt8) × List UInt8 × Int
  | 0, l => ([], l, 0)
  | n + 1, l =>
    match takeS l with
    | (_, some (k, body, rest)) => let r := allN n rest; ((k, body) :: r.1, r.2)
    | (e, none) => ([], l, e)
def allS (l : List UInt8) : List (UInt8 × List UInt8) × List UInt8 × Int := allN (l.length + 1) l

theorem allN_more (n : Nat) : ∀ (m : Nat) (l : List UInt8), l.length < n → l.length < m → allN n l = allN m l := by
  induction n with
  | zero => intro m l h; omega
  | succ n ih =>
    intro m l h1 h2
    cases m with
    | zero => omega
    | succ m =>
      simp only [allN]
      cases ht : takeS l with
      | mk e o =>
        cases o with
        | none => rfl
        | some x =>
          obtain ⟨k, body, rest⟩ := x
          have := takeS_lt ht
          simp only
          rw [ih m rest (by omega) (by omega)]
theorem allS_none {l : List UInt8} {e : Int} (h : takeS l = (e, none)) : allS l = ([], l, e) := by simp [allS, allN, h]
theorem allS_some {l : List UInt8} {e : Int} {k : UInt8} {body rest : List UInt8} (h : takeS l = (e, some (k, body, rest))) :
    allS l = ((k, body) :: (allS rest).1, (allS rest).2) := by
  have := takeS_lt h
  unfold allS
  conv => lhs; unfold allN
  simp only [h]
  rw [allN_more l.length (rest.length + 1) rest (by omega) (by omega)]

/-- The cells of records: each a number and a slice. -/
def RecsAt (w : World) (S : Nat → Prop) : List Value → List (UInt8 × List UInt8) → Prop
  | [], [] => True
  | k :: v :: xs, (kb, body) :: rs => k = .int .i64 (kb.toNat : Int) ∧ (∃ p c, v = .slice p body.length c ∧ (p = none → c = 0) ∧ Rd w S p body) ∧ RecsAt w S xs rs
  | _, _ => False

theorem RecsAt.length {w : World} {S : Nat → Prop} : ∀ {xs : List Value} {rs : List (UInt8 × List UInt8)}, RecsAt w S xs rs → xs.length = 2 * rs.length
  | [], [], _ => rfl
  | [], _ :: _, h => by simp [RecsAt] at h
  | [_], [], h => by simp [RecsAt] at h
  | [_], _ :: _, h => by simp [RecsAt] at h
  | _ :: _ :: _, [], h => by simp [RecsAt] at h
  | k :: v :: xs, (kb, body) :: rs, h => by
    have := RecsAt.length h.2.2
    simp only [List.length_cons]; omega
theorem RecsAt.snoc {w : World} {S : Nat → Prop} {kb : UInt8} {body : List UInt8} {p : Option Addr} {c : Nat} (hp : p = none → c = 0) (hr : Rd w S p body) :
    ∀ {xs : List Value} {rs : List (UInt8 × List UInt8)}, RecsAt w S xs rs → RecsAt w S (xs ++ [.int .i64 (kb.toNat : Int), .slice p body.length c]) (rs ++ [(kb, body)])
  | [], [], _ => ⟨rfl, ⟨p, c, rfl, hp, hr⟩, trivial⟩
  | [], _ :: _, h => by simp [RecsAt] at h
  | [_], [], h => by simp [RecsAt] at h
  | [_], _ :: _, h => by simp [RecsAt] at h
  | _ :: _ :: _, [], h => by simp [RecsAt] at h
  | k :: v :: xs, (kb, body) :: rs, h => ⟨h.1, h.2.1, RecsAt.snoc hp hr h.2.2⟩
theorem RecsAt.get {w : World} {S : Nat → Prop} : ∀ {xs : List Value} {rs : List (UInt8 × List UInt8)}, RecsAt w S xs rs → ∀ i kb body, rs[i]? = some (kb, body) →
    xs[2 * i]? = some (.int .i64 (kb.toNat : Int)) ∧ ∃ p c, xs[2 * i + 1]? = some (.slice p body.length c) ∧ (p = none → c = 0) ∧ Rd w S p body
  | [], [], _, i, kb, body, hi => by simp at hi
  | [], _ :: _, h, _, _, _, _ => by simp [RecsAt] at h
  | [_], [], h, _, _, _, _ => by simp [RecsAt] at h
  | [_], _ :: _, h, _, _, _, _ => by simp [RecsAt] at h
  | _ :: _ :: _, [], h, _, _, _, _ => by simp [RecsAt] at h
  | k :: v :: xs, (kb, body) :: rs, h, 0, kb', body', hi => by
    simp at hi
    obtain ⟨rfl, rfl⟩ := hi
    obtain ⟨rfl, ⟨p, c, rfl, hp, hr⟩, _⟩ := h
    exact ⟨rfl, p, c, rfl, hp, hr⟩
  | k :: v :: xs, (kb, body) :: rs, h, i + 1, kb', body', hi => by
    have := RecsAt.get h.2.2 i kb' body' (by simpa using hi)
    have e1 : 2 * (i + 1) = 2 * i + 1 + 1 := by omega
    rw [e1]
    simpa using this
theorem RecsAt.kept {w w' : World} {S : Nat → Prop} (hk : ∀ {p : Option Addr} {l : List UInt8}, Rd w S p l → Rd w' S p l) : ∀ {xs : List Value} {rs : List (UInt8 × List UInt8)}, RecsAt w S xs rs → RecsAt w' S xs rs
  | [], [], _ => trivial
  | [], _ :: _, h => by simp [RecsAt] at h
  | [_], [], h => by simp [RecsAt] at h
  | [_], _ :: _, h => by simp [RecsAt] at h
  | _ :: _ :: _, [], h => by simp [RecsAt] at h
  | k :: v :: xs, (kb, body) :: rs, h => by
    obtain ⟨h1, ⟨p, c, h2, h3, h4⟩, h5⟩ := h
    exact ⟨h1, ⟨p, c, h2, h3, hk h4⟩, RecsAt.kept hk h5⟩
end Go.Proofs.Ytcgdeebjgcgepaa
