/-
  Plain laws: what hello.PutServer puts is what the document puts. No condition.
-/
import Derived.Test.YtegmimnhkohaoaaHelRP
namespace Go.Proofs.Ytegmimnhkohaoaa
open Go.RowKit Go.Kx
set_option linter.unusedVariables false
set_option linter.unusedSimpArgs false

/-- A writer that has L, if ok; else it is bad. -/
def Is (x : WS) (L : List UInt8) (ok : Bool) : Prop := (ok = true → x = (L, false)) ∧ (ok = false → x.2 = true)
theorem Is.nil : Is ([], false) [] true := ⟨fun _ => rfl, fun h => by cases h⟩
theorem Is.eq {x : WS} {L M : List UInt8} {a b : Bool} (h : Is x L a) (hb : a = b) (hL : b = true → L = M) : Is x M b := by
  subst hb
  exact ⟨fun hk => by rw [h.1 hk, hL hk], h.2⟩
theorem wU_bad {x : WS} (n W : Int) (h : x.2 = true) : (wU x n W).2 = true := by unfold wU; split; exact h; rfl
theorem wV_bad {x : WS} (v : List UInt8) (W l m : Int) (h : x.2 = true) : (wV x v W l m).2 = true := by unfold wV; split; simp [h]; rfl
theorem Is.M {x : WS} {L : List UInt8} {ok : Bool} (h : Is x L ok) (b : Bool) : Is (wM x b) L (ok && b) := by
  constructor
  · intro hk
    simp only [Bool.and_eq_true] at hk
    rw [h.1 hk.1]
    unfold wM
    simp [hk.2]
  · intro hk
    unfold wM
    cases ok
    · simp [h.2 rfl]
    · simp at hk
      simp [hk]
theorem putOk_2 (n : Int) : putOk n 2 ↔ in16 n = true := by
  unfold putOk in16
  have e : (256 : Int) ^ (2 : Int).toNat = 65536 := by decide
  rw [e]
  simp
  omega
theorem putOk_1 (n : Int) : putOk n 1 ↔ (0 ≤ n ∧ n ≤ 255) := by
  unfold putOk
  have e : (256 : Int) ^ (1 : Int).toNat = 256 := by decide
  rw [e]
  omega
theorem Is.U {x : WS} {L : List UInt8} {ok : Bool} (h : Is x L ok) (n : Int) : Is (wU x n 2) (L ++ be n.toNat 2) (ok && in16 n) := by
  constructor
  · intro hk
    simp only [Bool.and_eq_true] at hk
    rw [h.1 hk.1]
    unfold wU
    rw [if_pos ((putOk_2 n).2 hk.2)]
    rfl
  · intro hk
    cases ok
    · exact wU_bad n 2 (h.2 rfl)
    · simp only [Bool.true_and] at hk
      unfold wU
      rw [if_neg (fun hh => by rw [(putOk_2 n).1 hh] at hk; cases hk)]
theorem Is.U0 {x : WS} {L : List UInt8} {ok : Bool} (h : Is x L ok) : Is (wU x 0 1) (L ++ [0]) ok := by
  constructor
  · intro hk
    rw [h.1 hk]
    unfold wU
    rw [if_pos ((putOk_1 0).2 (by omega))]
    rfl
  · intro hk
    exact wU_bad 0 1 (h.2 hk)
theorem Is.V2 {x : WS} {L : List UInt8} {ok : Bool} (h : Is x L ok) (v : List UInt8) (l m : Nat) (hm : m ≤ 65535) : Is (wV x v 2 l m) (L ++ vecL 2 v) (ok && (decide (l ≤ v.length) && decide (v.length ≤ m))) := by
  constructor
  · intro hk
    simp only [Bool.and_eq_true, decide_eq_true_eq] at hk
    rw [h.1 hk.1]
    unfold wV
    rw [if_pos ((putOk_2 _).2 (by unfold in16; simp; omega))]
    have h1 : decide ((l : Int) ≤ (v.length : Int)) = true := decide_eq_true (by omega)
    have h2 : decide ((v.length : Int) ≤ (m : Int)) = true := decide_eq_true (by omega)
    rw [h1, h2]
    rfl
  · intro hk
    cases ok
    · exact wV_bad v 2 l m (h.2 rfl)
    · simp only [Bool.true_and] at hk
      unfold wV
      split
      · have : (decide ((l : Int) ≤ (v.length : Int)) && decide ((v.length : Int) ≤ (m : Int))) = false := by
          rw [← hk]
          congr 1 <;> rw [Bool.eq_iff_iff] <;> simp
        simp only [this]
        simp
      · rfl
theorem Is.V1 {x : WS} {L : List UInt8} {ok : Bool} (h : Is x L ok) (v : List UInt8) (l m : Nat) (hm : m ≤ 255) : Is (wV x v 1 l m) (L ++ vecL 1 v) (ok && (decide (l ≤ v.length) && decide (v.length ≤ m))) := by
  constructor
  · intro hk
    simp only [Bool.and_eq_true, decide_eq_true_eq] at hk
    rw [h.1 hk.1]
    unfold wV
    rw [if_pos ((putOk_1 _).2 (by omega))]
    have h1 : decide ((l : Int) ≤ (v.length : Int)) = true := decide_eq_true (by omega)
    have h2 : decide ((v.length : Int) ≤ (m : Int)) = true := decide_eq_true (by omega)
    rw [h1, h2]
    rfl
  · intro hk
    cases ok
    · exact wV_bad v 1 l m (h.2 rfl)
    · simp only [Bool.true_and] at hk
      unfold wV
      split
      · have : (decide ((l : Int) ≤ (v.length : Int)) && decide ((v.length : Int) ≤ (m : Int))) = false := by
          rw [← hk]
          congr 1 <;> rw [Bool.eq_iff_iff] <;> simp
        simp only [this]
        simp
      · rfl
theorem Is.N2 {x y : WS} {L M : List UInt8} {ok ok2 : Bool} (h : Is x L ok) (k : Is y M ok2) : Is (wN x y 2) (L ++ vecL 2 M) ((ok && ok2) && decide (M.length ≤ 65535)) := by
  unfold wN
  cases ok2
  · have hb : (wM x (!y.2)).2 = true := by unfold wM; simp [k.2 rfl]
    exact ⟨fun hk => by simp at hk, fun _ => wV_bad _ _ _ _ hb⟩
  · rw [k.1 rfl]
    have h2 := (h.M (!false)).V2 M 0 65535 (Nat.le_refl _)
    refine h2.eq ?_ (fun _ => rfl)
    simp
theorem u16L_in {n : Int} (h : in16 n = true) : be n.toNat 2 = u16L n := by
  unfold in16 at h
  simp only [Bool.and_eq_true, decide_eq_true_eq] at h
  obtain ⟨N, rfl⟩ : ∃ N : Nat, n = N := ⟨n.toNat, by omega⟩
  rw [u16L_nat N (by omega)]
  rfl
theorem Is.P {x y : WS} {L M : List UInt8} {ok ok2 : Bool} (h : Is x L ok) (kind : Nat) (hk : kind ≤ 65535) (there : Bool) (k : Is y M ok2) :
    Is (wP x kind there y) (if there then L ++ rextL kind M else L) (ok && (!there || (ok2 && decide (M.length ≤ 65535)))) := by
  unfold wP
  cases there
  · simpa using h
  · simp only [if_true, Bool.not_true, Bool.false_or]
    have hin : in16 (kind : Int) = true := by unfold in16; simp; omega
    cases ok2
    · have hb : (wM x (!y.2)).2 = true := by unfold wM; simp [k.2 rfl]
      exact ⟨fun hk => by simp at hk, fun _ => wV_bad _ _ _ _ (wU_bad _ _ hb)⟩
    · rw [k.1 rfl]
      have h2 := (((h.M (!false)).U kind).V2 M 0 65535 (Nat.le_refl _))
      refine h2.eq ?_ (fun _ => ?_)
      · rw [hin]; simp
      · unfold rextL
        rw [u16L_in hin, List.append_assoc]
        rfl
theorem Is.app {x : WS} {L : List UInt8} {ok : Bool} (h : Is x L ok) (M : List UInt8) : Is (x.1 ++ M, x.2) (L ++ M) ok :=
  ⟨fun hk => by rw [h.1 hk], fun hk => h.2 hk⟩

/-- What PutServer puts: the document's bytes, if it may be put. -/
theorem putS_is (s : Sv) : Is (putS s) (rputL s) (rokS s) := by
  have h1 : Is (yA1 s) (be s.ver.toNat 2) (in16 s.ver) := (Is.nil.U s.ver).eq (by simp) (fun _ => rfl)
  have h4 : Is (yA4 s) (be s.psk.toNat 2) (in16 s.psk) := (Is.nil.U s.psk).eq (by simp) (fun _ => rfl)
  have h3 : Is (yA3 s) (vecL 2 s.cook) (decide (1 ≤ s.cook.length) && decide (s.cook.length ≤ 64)) := (Is.nil.V2 s.cook 1 64 (by omega)).eq (by simp) (fun _ => rfl)
  have h2 : Is (yA2 s) (if s.retry then be s.grp.toNat 2 else be s.grp.toNat 2 ++ vecL 2 s.key) (in16 s.grp && (s.retry || (decide (1 ≤ s.key.length) && decide (s.key.length ≤ 64)))) := by
    unfold yA2
    cases hr : s.retry
    · simp only [Bool.false_eq_true, if_false, Bool.false_or]
      exact ((Is.nil.U s.grp).V2 s.key 1 64 (by omega)).eq (by simp) (fun _ => by simp)
    · simp only [if_true, Bool.true_or, Bool.and_true]
      exact (Is.nil.U s.grp).eq (by simp) (fun _ => rfl)
  have hA := (((Is.nil.P 43 (by omega) true h1).P 51 (by omega) (s.grp != 0) h2).P 44 (by omega) (s.retry && decide (0 < s.cook.length)) h3).P 41 (by omega) (decide (0 ≤ s.psk)) h4
  have hx := (((((Is.nil.M (fitsS s)).U 771).app (rndS s)).V1 s.ses 0 32 (by omega)).U s.suite).U0.N2 hA
  refine Is.eq hx ?_ ?_
  · have hm : max s.psk 0 = if 0 ≤ s.psk then s.psk else 0 := by split <;> omega
    rw [Bool.eq_iff_iff]
    unfold rokS ok1B ok2B fitsS all16B shareB
    rw [hm]
    by_cases hr : s.retry = true <;> by_cases hg : s.grp = 0 <;> by_cases hp : 0 ≤ s.psk <;> by_cases hR : s.R = retryL <;> by_cases hc : 0 < s.cook.length <;>
      simp [hr, hg, hp, hR, hc, in16, vecL_len, rextL_len, be_length, -List.length_eq_zero_iff] <;> (try omega)
  · intro hok
    have hm : max s.psk 0 = if 0 ≤ s.psk then s.psk else 0 := by split <;> omega
    unfold rokS ok1B ok2B all16B at hok
    rw [hm] at hok
    have i1 : in16 s.suite = true := by simp at hok; exact hok.1.2.1.1
    have i2 : in16 s.ver = true := by simp at hok; exact hok.1.2.1.2.1
    have i3 : in16 s.grp = true := by simp at hok; exact hok.1.2.1.2.2.1
    have i4 : 0 ≤ s.psk → in16 s.psk = true := by
      intro h
      rw [if_pos h] at hok
      simp at hok
      exact hok.1.2.1.2.2.2
    have i5 : s.retry = false → s.cook.length = 0 := by
      intro h
      rw [h] at hok
      simp [-List.length_eq_zero_iff] at hok
      exact hok.2.1.2
    have e771 : be (771 : Int).toNat 2 = [3, 3] := rfl
    unfold rputL e4S e3S e2S e1S vS
    rw [u16L_in i1, u16L_in i2, u16L_in i3, e771]
    clear hx hA h1 h2 h3 h4 hok hm
    by_cases hr : s.retry = true
    · by_cases hg : s.grp = 0 <;> by_cases hp : 0 ≤ s.psk <;> by_cases hc : s.cook.length = 0 <;>
        first
          | (have h5 := u16L_in (i4 hp); have hc2 : ¬ 0 < s.cook.length := (by omega); simp [hr, hg, hp, hc, hc2, h5, -List.length_eq_zero_iff])
          | (have h5 := u16L_in (i4 hp); have hc2 : 0 < s.cook.length := (by omega); simp [hr, hg, hp, hc, hc2, h5, -List.length_eq_zero_iff])
          | (have hc2 : ¬ 0 < s.cook.length := (by omega); simp [hr, hg, hp, hc, hc2, -List.length_eq_zero_iff])
          | (have hc2 : 0 < s.cook.length := (by omega); simp [hr, hg, hp, hc, hc2, -List.length_eq_zero_iff])
    · have hr' : s.retry = false := by simpa using hr
      have hc := i5 hr'
      by_cases hg : s.grp = 0 <;> by_cases hp : 0 ≤ s.psk <;>
        first
          | (have h5 := u16L_in (i4 hp); simp [hr', hg, hp, hc, h5, -List.length_eq_zero_iff])
          | simp [hr', hg, hp, hc, -List.length_eq_zero_iff]
end Go.Proofs.Ytegmimnhkohaoaa
