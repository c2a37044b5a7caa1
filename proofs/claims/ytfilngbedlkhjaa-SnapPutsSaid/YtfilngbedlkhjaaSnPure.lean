/-
  The bytes of a State, and what is read out of bytes: plain lists. Conditions: those of each theorem.
-/
import Derived.Test.YtfilngbedlkhjaaBack
import Derived.Test.YtfilngbedlkhjaaSnA
namespace Go.Proofs.Ytfilngbedlkhjaa
open Go.RowKit Go.Kx
set_option linter.unusedVariables false

/-! ### The steps of a Reader, on what it has yet and its error -/
abbrev RS := List UInt8 × Int
def uN (x : RS) (W : Int) : Nat := beN (outS x.1 (wb x.2 W) W)
def uS (x : RS) (W : Int) : RS := (leftS x.1 (wb x.2 W) W, badS x.1 (wb x.2 W) W)
def bN (x : RS) (n : Int) : List UInt8 := outS x.1 x.2 n
def bS (x : RS) (n : Int) : RS := (leftS x.1 x.2 n, badS x.1 x.2 n)
def vN (x : RS) (W l m : Int) : List UInt8 := (vecS x.1 x.2 W l m).1
def vS (x : RS) (W l m : Int) : RS := ((vecS x.1 x.2 W l m).2.1, (vecS x.1 x.2 W l m).2.2)
def fS (x : RS) : RS := (x.1, rm x.2 3)

theorem rm_bad {b e : Int} (h : b ≠ 0) : rm b e = b := by unfold rm; rw [if_neg h]
theorem badS_bad {s : List UInt8} {b n : Int} (h : b ≠ 0) : badS s b n = b := by unfold badS; rw [rm_bad h, rm_bad h]; split <;> (try split) <;> rfl
theorem wb_bad {b W : Int} (h : b ≠ 0) : wb b W = b := by unfold wb; rw [rm_bad h]; split <;> rfl
/-- Once something was wrong it stays so. -/
theorem uS_bad {x : RS} (h : x.2 ≠ 0) (W : Int) : (uS x W).2 = x.2 := by unfold uS; rw [wb_bad h]; exact badS_bad h
theorem bS_bad {x : RS} (h : x.2 ≠ 0) (n : Int) : (bS x n).2 = x.2 := badS_bad h
theorem fS_bad {x : RS} (h : x.2 ≠ 0) : (fS x).2 = x.2 := rm_bad h
theorem vS_bad {x : RS} (h : x.2 ≠ 0) (W l m : Int) : (vS x W l m).2 = x.2 := by
  have h1 : badS x.1 x.2 W = x.2 := badS_bad h
  unfold vS vecS
  simp only [wb_bad h, h1]
  rw [if_neg (fun hh => by rw [badS_bad h] at hh; exact h hh.1)]
  dsimp only
  exact badS_bad h

/-- What is there is read. -/
theorem u_full {n W : Nat} (hW : 1 ≤ W ∧ W ≤ 4) (hn : n < 256 ^ W) (t : List UInt8) : uN (be n W ++ t, 0) (W : Int) = n ∧ uS (be n W ++ t, 0) (W : Int) = (t, 0) := by
  obtain ⟨a1, a2, a3⟩ := S_app (be n W) t (W : Int) (by rw [be_length])
  unfold uN uS
  simp only [wb_ok hW, a1, a2, a3, beN_be hn, and_self]
theorem b_full (l t : List UInt8) (n : Int) (h : (l.length : Int) = n) : bN (l ++ t, 0) n = l ∧ bS (l ++ t, 0) n = (t, 0) := by
  obtain ⟨a1, a2, a3⟩ := S_app l t n h
  unfold bN bS
  simp only [a1, a2, a3, and_self]
theorem v_full {v : List UInt8} {W : Nat} {l m : Int} (hW : 1 ≤ W ∧ W ≤ 4) (h : v.length < 256 ^ W) (h1 : l ≤ (v.length : Int)) (h2 : (v.length : Int) ≤ m) (t : List UInt8) : vN (be v.length W ++ (v ++ t), 0) (W : Int) l m = v ∧ vS (be v.length W ++ (v ++ t), 0) (W : Int) l m = (t, 0) := by
  unfold vN vS
  rw [vec_read hW h h1 h2]
  simp

/-- Of s, of which the end t is not there: what is there, or that it ended too early. -/
def Ct (t s : List UInt8) (x : RS) : Prop := x.2 = 2 ∨ x.2 = 0 ∧ x.1 ++ t = s
theorem Ct.take {t u s : List UInt8} {x : RS} (h : Ct t (u ++ s) x) (n : Int) (hn : (u.length : Int) = n) : Ct t s (bS x n) ∧ ((bS x n).2 = 0 → bN x n = u ∧ x.2 = 0) := by
  subst hn
  rcases h with h | ⟨h0, h1⟩
  · have := bS_bad (x := x) (by omega) (u.length : Int)
    exact ⟨.inl (by rw [this, h]), fun h' => by omega⟩
  · obtain ⟨l, b⟩ := x
    simp only at h0 h1
    subst h0
    by_cases hl : l.length < u.length
    · have hb : badS l 0 (u.length : Int) = 2 := by unfold badS rm; rw [if_neg (by omega), if_pos (by omega), if_pos rfl]
      exact ⟨.inl hb, fun h' => by have h2 : badS l 0 (u.length : Int) = 0 := h'; omega⟩
    · obtain ⟨v, rfl⟩ : ∃ v, l = u ++ v := by
        refine ⟨l.drop u.length, ?_⟩
        have h2 := congrArg (List.take u.length) h1
        rw [List.take_append_of_le_length (by omega), List.take_left'  rfl] at h2
        rw [← h2]
        simp only [List.length_take]
        rw [Nat.min_eq_left (by omega)]
        exact (List.take_append_drop _ _).symm
      obtain ⟨b1, b2⟩ := b_full u v (u.length : Int) rfl
      rw [List.append_assoc] at h1
      rw [b2]
      exact ⟨.inr ⟨rfl, List.append_cancel_left h1⟩, fun _ => ⟨b1, rfl⟩⟩
theorem Ct.u {t s : List UInt8} {x : RS} {n W : Nat} (hW : 1 ≤ W ∧ W ≤ 4) (hn : n < 256 ^ W) (h : Ct t (be n W ++ s) x) : Ct t s (uS x (W : Int)) ∧ ((uS x (W : Int)).2 = 0 → uN x (W : Int) = n) := by
  have h1 := h.take (W : Int) (by rw [be_length])
  have e1 : uS x (W : Int) = bS x (W : Int) := by unfold uS bS; rw [wb_ok hW]
  have e2 : uN x (W : Int) = beN (bN x (W : Int)) := by unfold uN bN; rw [wb_ok hW]
  rw [e1, e2]
  exact ⟨h1.1, fun h' => by rw [(h1.2 h').1, beN_be hn]⟩
theorem Ct.v {t s v : List UInt8} {x : RS} {W : Nat} {l m : Int} (hW : 1 ≤ W ∧ W ≤ 4) (hv : v.length < 256 ^ W) (hl : l ≤ (v.length : Int)) (hm : (v.length : Int) ≤ m) (h : Ct t (be v.length W ++ (v ++ s)) x) : Ct t s (vS x (W : Int) l m) ∧ ((vS x (W : Int) l m).2 = 0 → vN x (W : Int) l m = v) := by
  have h1 := h.u hW hv
  by_cases h0 : (uS x (W : Int)).2 = 0
  · have hn := h1.2 h0
    have h2 := h1.1.take (v.length : Int) rfl
    have e : vecS x.1 x.2 (W : Int) l m = (bN (uS x (W : Int)) (v.length : Int), bS (uS x (W : Int)) (v.length : Int)) := by
      unfold vecS
      have e1 : (beN (outS x.1 (wb x.2 (W : Int)) (W : Int)) : Nat) = v.length := hn
      simp only [e1]
      rw [if_neg (by omega)]
      rfl
    unfold vS vN
    rw [e]
    exact ⟨h2.1, fun h' => (h2.2 h').1⟩
  · have h2 : (uS x (W : Int)).2 = 2 := by
      rcases h1.1 with h2 | h2
      · exact h2
      · exact absurd h2.1 h0
    have e : (vS x (W : Int) l m).2 = 2 := by
      have hb : badS x.1 (wb x.2 (W : Int)) (W : Int) = 2 := h2
      unfold vS vecS
      simp only [hb]
      rw [if_neg (fun hh => by rw [badS_bad (by omega)] at hh; omega)]
      dsimp only
      exact badS_bad (by omega)
    exact ⟨.inl e, fun h' => by omega⟩
theorem Ct.end {t : List UInt8} {x : RS} (h : Ct t [] x) (ht : t ≠ []) : x.2 = 2 := by
  rcases h with h | h
  · exact h
  · have := (List.append_eq_nil_iff.1 h.2).2
    exact absurd this ht

/-! ### A State's bytes -/
def bdB (s : St) : List UInt8 := be s.ph.toNat 1 ++ (be s.lg.length 2 ++ (s.lg ++ (s.sm ++ (be s.a.toNat 1 ++ (be s.b.toNat 1 ++ (be s.c.toNat 2 ++ (be s.d.toNat 2 ++ (be (if s.sl then 1 else 0) 1 ++ (be s.pt.length 2 ++ s.pt)))))))))
def usB (s : St) : List UInt8 := be s.us.length 1 ++ s.us
def alB (s : St) : List UInt8 := be (s.al + 1).toNat 2
def snB (s : St) (v : Nat) : List UInt8 := be v 1 ++ (bdB s ++ ((if 2 ≤ v then usB s else []) ++ (if 3 ≤ v then alB s else [])))

/-- What is read behind the version: the fields, and where the Reader stands. -/
def smS : Nat → RS → List UInt8 × RS
  | 0, x => ([], x)
  | k + 1, x => let o := bN (smS k x).2 32; ((smS k x).1 ++ (o ++ List.replicate (32 - o.length) 0), bS (smS k x).2 32)

/-- The whole: the State, the version, the error. -/
structure Go1 (L : List UInt8) (ver : Nat) (s : St) (sealed : Nat) (y : RS) : Prop where
  ex : ∃ (x1 x2 x3 x4 x5 x6 x7 x8 x9 x10 x11 x12 : RS),
    (ver = uN (L, 0) 1 ∧ x1 = uS (L, 0) 1) ∧ x2 = (if 1 ≤ ver ∧ ver ≤ 3 then x1 else fS x1) ∧ (s.ph = (uN x2 1 : Nat) ∧ x3 = uS x2 1) ∧ (s.lg = vN x3 2 0 20000 ∧ x4 = vS x3 2 0 20000) ∧
    (s.sm = (smS 7 x4).1 ∧ x5 = (smS 7 x4).2) ∧ (s.a = (uN x5 1 : Nat) ∧ x6 = uS x5 1) ∧ (s.b = (uN x6 1 : Nat) ∧ x7 = uS x6 1) ∧ (s.c = (uN x7 2 : Nat) ∧ x8 = uS x7 2) ∧ (s.d = (uN x8 2 : Nat) ∧ x9 = uS x8 2) ∧
    (sealed = uN x9 1 ∧ x10 = uS x9 1) ∧ s.sl = decide (sealed = 1) ∧ (s.pt = vN x10 2 0 4096 ∧ x11 = vS x10 2 0 4096) ∧
    (s.us = (if 2 ≤ ver then vN x11 1 0 255 else []) ∧ x12 = (if 2 ≤ ver then vS x11 1 0 255 else x11)) ∧
    (s.al = (if 3 ≤ ver then ((uN x12 2 : Nat) : Int) - 1 else -1) ∧ y = (if 3 ≤ ver then uS x12 2 else x12))
end Go.Proofs.Ytfilngbedlkhjaa
