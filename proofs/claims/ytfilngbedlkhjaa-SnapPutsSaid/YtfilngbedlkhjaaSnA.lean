/-
  A State of package server, and one of the document's answer, as cells; may it be (snap.Right, relayref18.Right)? No condition.
-/
import Derived.Test.YtfilngbedlkhjaaCurE
import Derived.Test.YtfilngbedlkhjaaRefD
import Derived.Test.YtfilngbedlkhjaaStepA
import Derived.WalkKit
import Derived.ProofKit
namespace Go.Proofs.Ytfilngbedlkhjaa
open Go.RowKit Go.Kx
set_option linter.unusedVariables false

theorem between_c (n low high : Int) (w : World) : Calls Try.prog 17 #[.int .i64 n, .int .i64 low, .int .i64 high] w fun e w' => e = .returned (.bool (decide (low ≤ n ∧ n ≤ high))) ∧ w = w' := by
  by_cases h : low ≤ n
  · by_cases h' : n ≤ high
    · go_enter Try.func17, Try.ntmps17
      go_wp2
      all_goals go_ret
      all_goals (refine ⟨congrArg Ending.returned (congrArg Value.bool ?_), rfl⟩; simp; try omega)
    · go_enter Try.func17, Try.ntmps17
      go_wp2
      all_goals go_ret
      all_goals (refine ⟨congrArg Ending.returned (congrArg Value.bool ?_), rfl⟩; simp; try omega)
  · go_enter Try.func17, Try.ntmps17
    go_wp2
    all_goals go_ret
    all_goals (refine ⟨congrArg Ending.returned (congrArg Value.bool ?_), rfl⟩; simp; try omega)

/-- A State, read. -/
structure St where
  ph : Int
  lg : List UInt8
  sm : List UInt8
  a : Int
  b : Int
  c : Int
  d : Int
  sl : Bool
  pt : List UInt8
  us : List UInt8
  al : Int

/-- The cells of a State: its phase, its log, its seven sums, and so on. -/
structure StC (C : Array Value) (ph : Int) (lg : Value) (sm : List UInt8) (a b c d : Int) (sl : Bool) (pt us : Value) (al : Int) : Prop where
  size : C.size = 234
  len : sm.length = 224
  e0 : C[0]? = some (.int .i64 ph)
  e1 : C[1]? = some lg
  es : ∀ i (h : i < sm.length), C[2 + i]? = some (B8 sm[i])
  e226 : C[226]? = some (.int .i64 a)
  e227 : C[227]? = some (.int .i64 b)
  e228 : C[228]? = some (.int .i64 c)
  e229 : C[229]? = some (.int .i64 d)
  e230 : C[230]? = some (.bool sl)
  e231 : C[231]? = some pt
  e232 : C[232]? = some us
  e233 : C[233]? = some (.int .i64 al)

/-- A slice that has the bytes l. -/
def Sl (w : World) (v : Value) (l : List UInt8) : Prop := ∃ p n c, v = .slice p n c ∧ l.length = n ∧ Rd w (fun _ => True) p l ∧ (p = none → c = 0) ∧ n ≤ c ∧ c ≤ maxLen
theorem Sl.below {w w' : World} {v : Value} {l : List UInt8} (h : Sl w v l) (ho : Below w.heap.size w w') : Sl w' v l := by
  obtain ⟨p, n, c, rfl, h1, h2, h3⟩ := h
  exact ⟨p, n, c, rfl, h1, h2.below ho, h3⟩
theorem Sl.nil (w : World) : Sl w (.slice none 0 0) [] := ⟨none, 0, 0, rfl, rfl, Rd.nil _ _ _, fun _ => rfl, Nat.le_refl _, Nat.zero_le _⟩

/-- The cells C are the State s. -/
def IsSt (w : World) (C : Array Value) (s : St) : Prop := ∃ lg pt us, StC C s.ph lg s.sm s.a s.b s.c s.d s.sl pt us s.al ∧ Sl w lg s.lg ∧ Sl w pt s.pt ∧ Sl w us s.us
theorem IsSt.below {w w' : World} {C : Array Value} {s : St} (h : IsSt w C s) (ho : Below w.heap.size w w') : IsSt w' C s := by
  obtain ⟨lg, pt, us, h1, h2, h3, h4⟩ := h
  exact ⟨lg, pt, us, h1, h2.below ho, h3.below ho, h4.below ho⟩

/-- May it be? -/
def okS (s : St) : Prop := (0 ≤ s.ph ∧ s.ph ≤ 4) ∧ (0 ≤ s.a ∧ s.a ≤ 64) ∧ (0 ≤ s.b ∧ s.b ≤ 64) ∧ (0 ≤ s.c ∧ s.c ≤ 65535) ∧ (0 ≤ s.d ∧ s.d ≤ 65535) ∧ (-1 ≤ s.al ∧ s.al ≤ 255) ∧ s.lg.length ≤ 20000 ∧ s.pt.length ≤ 4096 ∧ s.us.length ≤ 255
instance (s : St) : Decidable (okS s) := by unfold okS; infer_instance

set_option maxHeartbeats 4000000 in
theorem right_s (C : Array Value) (s : St) (w : World) (h : IsSt w C s) :
    Calls Try.prog 12 #[.agg C] w fun e w' => e = .returned (.bool (decide (okS s))) ∧ Below w.heap.size w w' := by
  obtain ⟨lg, pt, us, hC, ⟨p1, n1, c1, rfl, l1, -⟩, ⟨p2, n2, c2, rfl, l2, -⟩, ⟨p3, n3, c3, rfl, l3, -⟩⟩ := h
  obtain ⟨ph, lgs, sm, a, b, c, d, sl, pts, uss, al⟩ := s
  simp only at hC l1 l2 l3
  have e0 := hC.e0
  have e1 := hC.e1
  have e6 := hC.e226
  have e7 := hC.e227
  have e8 := hC.e228
  have e9 := hC.e229
  have e11 := hC.e231
  have e12 := hC.e232
  have e13 := hC.e233
  have L := Lib.hid (And.intro l1 (And.intro l2 l3))
  clear l1 l2 l3
  go_enter Try.func12, Try.ntmps12
  go_wp2_with (first | (go_at_call 17; refine (between_c _ _ _ _).mono ?_; rintro e w' ⟨rfl, rfl⟩))
  all_goals go_ret
  all_goals obtain ⟨l1, l2, l3⟩ := L.out
  all_goals clear L hC e0 e1 e6 e7 e8 e9 e11 e12 e13
  all_goals refine ⟨congrArg Ending.returned (congrArg Value.bool ?_), (Below.refl _ _).alloc (Nat.le_refl _) _⟩
  all_goals simp only [okS]
  all_goals subst l1 l2 l3
  all_goals (first | (symm; apply decide_eq_true; simp_all; omega) | (symm; apply decide_eq_false; simp_all; omega) | (rw [Bool.eq_iff_iff]; simp_all; omega))

set_option maxHeartbeats 4000000 in
theorem rright_s (C : Array Value) (s : St) (w : World) (h : IsSt w C s) :
    Calls Try.prog 7 #[.agg C] w fun e w' => e = .returned (.bool (decide (okS s))) ∧ Below w.heap.size w w' := by
  obtain ⟨lg, pt, us, hC, ⟨p1, n1, c1, rfl, l1, -⟩, ⟨p2, n2, c2, rfl, l2, -⟩, ⟨p3, n3, c3, rfl, l3, -⟩⟩ := h
  obtain ⟨ph, lgs, sm, a, b, c, d, sl, pts, uss, al⟩ := s
  simp only at hC l1 l2 l3
  have e0 := hC.e0
  have e1 := hC.e1
  have e6 := hC.e226
  have e7 := hC.e227
  have e8 := hC.e228
  have e9 := hC.e229
  have e11 := hC.e231
  have e12 := hC.e232
  have e13 := hC.e233
  have L := Lib.hid (And.intro l1 (And.intro l2 l3))
  clear l1 l2 l3
  go_enter Try.func7, Try.ntmps7
  go_wp2
  all_goals go_ret
  all_goals obtain ⟨l1, l2, l3⟩ := L.out
  all_goals clear L hC e0 e1 e6 e7 e8 e9 e11 e12 e13
  all_goals refine ⟨congrArg Ending.returned (congrArg Value.bool ?_), (Below.refl _ _).alloc (Nat.le_refl _) _⟩
  all_goals simp only [okS]
  all_goals subst l1 l2 l3
  all_goals (first | (symm; apply decide_eq_true; simp_all; omega) | (symm; apply decide_eq_false; simp_all; omega) | (rw [Bool.eq_iff_iff]; simp_all; omega))
end Go.Proofs.Ytfilngbedlkhjaa
