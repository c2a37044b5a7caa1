/-
  What the document's PutServer puts, and when (plain). No condition.
-/
import Derived.Test.YtegmimnhkohaoaaHelR
import Derived.Test.YtegmimnhkohaoaaHelT
namespace Go.Proofs.Ytegmimnhkohaoaa
open Go.RowKit Go.Kx
set_option linter.unusedVariables false
set_option linter.unusedSimpArgs false

/-- May a Server be put? -/
def ok1B (s : Sv) : Bool := decide (s.ses.length ≤ 32) && (all16B [s.suite, s.ver, s.grp, max s.psk 0] 4 && (decide (-1 ≤ s.psk) && decide (s.cook.length ≤ 64)))
def ok2B (s : Sv) : Bool := if s.retry then (decide (s.key.length = 0) && decide (s.psk = -1)) && (decide (s.grp ≠ 0) || decide (0 < s.cook.length))
  else (decide (s.R ≠ retryL) && decide (s.cook.length = 0)) && (if s.grp = 0 then decide (s.key.length = 0) else shareB s.grp s.key.length)
def rokS (s : Sv) : Bool := ok1B s && ok2B s

def rextL (kind : Int) (l : List UInt8) : List UInt8 := u16L kind ++ (be l.length 2 ++ l)
def vecL (W : Nat) (l : List UInt8) : List UInt8 := be l.length W ++ l
theorem rextL_len (kind : Int) (l : List UInt8) : (rextL kind l).length = l.length + 4 := wext_len _ _ _
theorem vecL_len (W : Nat) (l : List UInt8) : (vecL W l).length = l.length + W := by unfold vecL; rw [List.length_append, be_length]; omega
theorem u16L_len (n : Int) : (u16L n).length = 2 := rfl
/-- The extensions, step by step. -/
def e1S (s : Sv) : List UInt8 := rextL 43 (u16L s.ver)
def vS (s : Sv) : List UInt8 := if s.retry then u16L s.grp else u16L s.grp ++ vecL 2 s.key
def e2S (s : Sv) : List UInt8 := if s.grp = 0 then e1S s else e1S s ++ rextL 51 (vS s)
def e3S (s : Sv) : List UInt8 := if s.cook.length = 0 then e2S s else e2S s ++ rextL 44 (vecL 2 s.cook)
def e4S (s : Sv) : List UInt8 := if 0 ≤ s.psk then e3S s ++ rextL 41 (u16L s.psk) else e3S s
def rputL (s : Sv) : List UInt8 := [3, 3] ++ rndS s ++ vecL 1 s.ses ++ u16L s.suite ++ [0] ++ vecL 2 (e4S s)
theorem rndS_len {s : Sv} (h : s.R.length = 32) : (rndS s).length = 32 := by unfold rndS; split; exact retryL_len; exact h
theorem e2S_le {s : Sv} (h : s.key.length ≤ 64) : (e2S s).length ≤ 100 := by
  unfold e2S e1S vS
  split
  · rw [rextL_len, u16L_len]; omega
  · rw [List.length_append, rextL_len, rextL_len, u16L_len]
    split
    · rw [u16L_len]; omega
    · rw [List.length_append, vecL_len, u16L_len]; omega
theorem e2S_pos (s : Sv) : 0 < (e2S s).length := by
  unfold e2S e1S
  split
  · rw [rextL_len]; omega
  · rw [List.length_append, rextL_len]; omega
theorem e3S_le {s : Sv} (h : s.key.length ≤ 64 ∧ s.cook.length ≤ 64) : (e3S s).length ≤ 200 := by
  have := e2S_le h.1
  unfold e3S
  split
  · omega
  · rw [List.length_append, rextL_len, vecL_len]; omega
theorem e3S_pos (s : Sv) : 0 < (e3S s).length := by
  have := e2S_pos s
  unfold e3S
  split
  · omega
  · rw [List.length_append]; omega
theorem e4S_le {s : Sv} (h : s.key.length ≤ 64 ∧ s.cook.length ≤ 64) : (e4S s).length ≤ 300 := by
  have := e3S_le h
  unfold e4S
  split
  · rw [List.length_append, rextL_len, u16L_len]; omega
  · omega
theorem rokS_le {s : Sv} (h : rokS s = true) : s.ses.length ≤ 32 ∧ s.key.length ≤ 64 ∧ s.cook.length ≤ 64 := by
  unfold rokS ok1B ok2B shareB at h
  simp only [Bool.and_eq_true, decide_eq_true_eq] at h
  obtain ⟨⟨h1, -, -, h2⟩, h3⟩ := h
  refine ⟨h1, ?_, h2⟩
  split at h3
  · simp only [Bool.and_eq_true, decide_eq_true_eq] at h3
    omega
  · simp only [Bool.and_eq_true, decide_eq_true_eq] at h3
    obtain ⟨-, h4⟩ := h3
    split at h4
    · simp only [decide_eq_true_eq] at h4; omega
    · simp only [Bool.and_eq_true, decide_eq_true_eq] at h4; omega

end Go.Proofs.Ytegmimnhkohaoaa
