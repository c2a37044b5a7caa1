/-
  Plain laws: what PutServer puts GetServer reads again. No condition.
-/
import Derived.Test.YtegmimnhkohaoaaHelP1
import Derived.Test.YtegmimnhkohaoaaHelV
import Derived.Test.YtegmimnhkohaoaaBack
namespace Go.Proofs.Ytegmimnhkohaoaa
open Go.RowKit Go.Kx
set_option linter.unusedVariables false
set_option linter.unusedSimpArgs false

theorem rU_be (n W : Nat) (hW : 1 ≤ W ∧ W ≤ 4) (h : n < 256 ^ W) (t : List UInt8) : rU (be n W ++ t) 0 (W : Int) = ((n : Int), t, 0) := by
  obtain ⟨a1, a2, a3⟩ := S_app (be n W) t (W : Int) (by rw [be_length])
  unfold rU
  rw [wb_ok hW, a1, a2, a3, beN_be h]
theorem u16L_be {n : Int} (h : in16 n = true) : ∃ N : Nat, n = (N : Int) ∧ N < 65536 ∧ u16L n = be N 2 := by
  have h2 := u16L_in h
  unfold in16 at h
  simp only [Bool.and_eq_true, decide_eq_true_eq] at h
  exact ⟨n.toNat, by omega, by omega, h2.symm⟩
theorem rU_u16 {n : Int} (h : in16 n = true) (t : List UInt8) : rU (u16L n ++ t) 0 2 = (n, t, 0) := by
  obtain ⟨N, rfl, h2, h3⟩ := u16L_be h
  rw [h3]
  exact rU_be N 2 (by omega) (by simpa using h2) t
theorem rU_u16' {n : Int} (h : in16 n = true) : rU (u16L n) 0 2 = (n, [], 0) := by
  have := rU_u16 h []
  rwa [List.append_nil] at this
theorem rU_one (t : List UInt8) : rU (0 :: t) 0 1 = (0, t, 0) := rU_be 0 1 (by omega) (by decide) t
theorem mustS_u16 {n : Int} (h : in16 n = true) (t : List UInt8) : mustS (u16L n ++ t) 0 n 2 = (t, 0) := by
  unfold mustS
  rw [rU_u16 h]
  simp
theorem mustS_zero (t : List UInt8) : mustS (0 :: t) 0 0 1 = (t, 0) := by
  unfold mustS
  rw [rU_one]
  simp
theorem vecS_1 (v t : List UInt8) (l m : Nat) (h1 : l ≤ v.length) (h2 : v.length ≤ m) (h3 : m ≤ 255) : vecS (vecL 1 v ++ t) 0 1 l m = (v, t, 0) := by
  unfold vecL
  rw [List.append_assoc]
  exact vec_read (W := 1) (by omega) (by simp only [Nat.pow_one]; omega) (by omega) (by omega)
theorem vecS_2 (v t : List UInt8) (l m : Nat) (h1 : l ≤ v.length) (h2 : v.length ≤ m) (h3 : m ≤ 65535) : vecS (vecL 2 v ++ t) 0 2 l m = (v, t, 0) := by
  unfold vecL
  rw [List.append_assoc]
  exact vec_read (W := 2) (by omega) (by simp only [Nat.reducePow]; omega) (by omega) (by omega)
theorem vecS_2' (v : List UInt8) (l m : Nat) (h1 : l ≤ v.length) (h2 : v.length ≤ m) (h3 : m ≤ 65535) : vecS (vecL 2 v) 0 2 l m = (v, [], 0) := by
  have := vecS_2 v [] l m h1 h2 h3
  rwa [List.append_nil] at this
theorem headS_ext (had : List Int) (kind : Int) (hin : in16 kind = true) (body t : List UInt8) (hb : body.length ≤ 65535) (hn : kind ∉ had) : headS had (rextL kind body ++ t) = (kind, body, t, 0) := by
  unfold headS rextL
  have e : u16L kind ++ (be body.length 2 ++ body) ++ t = u16L kind ++ (vecL 2 body ++ t) := by unfold vecL; simp
  rw [e, rU_u16 hin]
  have h2 := vecS_2 body t 0 65535 (by omega) hb (by omega)
  simp only [Int.ofNat_zero] at h2
  have h3 : vecS (vecL 2 body ++ t) 0 2 0 65535 = (body, t, 0) := h2
  simp only [h3, if_neg hn]
section
variable {σ : Type} (F : σ → Int → List UInt8 → Bool → σ × List UInt8 × Int)
theorem extsL_ext (n : Nat) (hn : 0 < n) (st st' : σ) (had : List Int) (kind : Int) (hk : in16 kind = true) (body t : List UInt8) (hb : body.length ≤ 65535) (hh : kind ∉ had) (hF : F st kind body (decide (t = [])) = (st', [], 0)) :
    extsL F n st had (rextL kind body ++ t) 0 = extsL F (n - 1) st' (kind :: had) t 0 := by
  obtain ⟨m, rfl⟩ : ∃ m, n = m + 1 := ⟨n - 1, by omega⟩
  rw [extsL_go F m st had _ (by intro h; have := congrArg List.length h; rw [List.length_append, rextL_len] at this; simp at this), headS_ext had kind hk body t hb hh]
  simp only [hF]
  rfl
theorem extsL_ext' (n : Nat) (hn : 0 < n) (st st' : σ) (had : List Int) (kind : Int) (hk : in16 kind = true) (body : List UInt8) (hb : body.length ≤ 65535) (hh : kind ∉ had) (hF : F st kind body true = (st', [], 0)) :
    extsL F n st had (rextL kind body) 0 = (st', [], 0) := by
  have h := extsL_ext F n hn st st' had kind hk body [] hb hh (by simpa using hF)
  rw [List.append_nil] at h
  rw [h, extsL_stop _ _ _ _ _ _ (.inl rfl)]
end

theorem srvF_43 (st : Sv) {n : Int} (h : in16 n = true) (last : Bool) : srvF st 43 (u16L n) last = ({ st with ver := n }, [], 0) := by
  unfold srvF
  rw [if_pos rfl, rU_u16' h]
theorem srvF_41 (st : Sv) {n : Int} (h : in16 n = true) (last : Bool) (hr : st.retry = false) : srvF st 41 (u16L n) last = ({ st with psk := n }, [], 0) := by
  unfold srvF
  rw [if_neg (by decide), if_neg (by decide), if_neg (by decide), if_pos rfl, hr, if_neg Bool.false_ne_true, rU_u16' h]
theorem srvF_44 (st : Sv) (v : List UInt8) (last : Bool) (hr : st.retry = true) (h1 : 1 ≤ v.length) (h2 : v.length ≤ 64) : srvF st 44 (vecL 2 v) last = ({ st with cook := v }, [], 0) := by
  unfold srvF
  rw [if_neg (by decide), if_neg (by decide), if_pos rfl, hr, if_pos rfl]
  have h := vecS_2' v 1 64 h1 h2 (by omega)
  have h' : vecS (vecL 2 v) 0 2 1 64 = (v, [], 0) := h
  rw [h']
theorem srvF_51r (st : Sv) {n : Int} (h : in16 n = true) (last : Bool) (hr : st.retry = true) (hn : n ≠ 0) : srvF st 51 (u16L n) last = ({ st with grp := n }, [], 0) := by
  unfold srvF
  rw [if_neg (by decide), if_pos rfl, hr, if_pos rfl, rU_u16' h]
  simp [hn, hr]
theorem srvF_51 (st : Sv) {n : Int} (h : in16 n = true) (v : List UInt8) (last : Bool) (hr : st.retry = false) (hn : n ≠ 0) (h1 : 1 ≤ v.length) (h2 : v.length ≤ 64) : srvF st 51 (u16L n ++ vecL 2 v) last = ({ st with grp := n, key := v }, [], 0) := by
  unfold srvF
  rw [if_neg (by decide), if_pos rfl, hr, if_neg Bool.false_ne_true, rU_u16 h]
  have h3 := vecS_2' v 1 64 h1 h2 (by omega)
  have h' : vecS (vecL 2 v) 0 2 1 64 = (v, [], 0) := h3
  simp only [h', if_neg hn]

/-- What comes back. -/
def backS (s : Sv) : Sv := if s.retry then { s with R := List.replicate 32 0 } else s
theorem rokS_in {s : Sv} (h : rokS s = true) : in16 s.suite = true ∧ in16 s.ver = true ∧ in16 s.grp = true ∧ (0 ≤ s.psk → in16 s.psk = true) ∧ -1 ≤ s.psk := by
  have hm : max s.psk 0 = if 0 ≤ s.psk then s.psk else 0 := by split <;> omega
  unfold rokS ok1B all16B at h
  rw [hm] at h
  simp at h
  refine ⟨h.1.2.1.1, h.1.2.1.2.1, h.1.2.1.2.2.1, fun hp => ?_, h.1.2.2.1⟩
  have := h.1.2.1.2.2.2
  rwa [if_pos hp] at this
theorem rokS_retry {s : Sv} (h : rokS s = true) (hr : s.retry = true) : s.key = [] ∧ s.psk = -1 ∧ (s.grp ≠ 0 ∨ 0 < s.cook.length) := by
  unfold rokS ok2B at h
  rw [hr] at h
  simp at h
  exact ⟨h.2.1.1, h.2.1.2, h.2.2⟩
theorem rokS_plain {s : Sv} (h : rokS s = true) (hr : s.retry = false) : s.R ≠ retryL ∧ s.cook = [] ∧ (if s.grp = 0 then s.key = [] else 1 ≤ s.key.length ∧ s.key.length ≤ 64) := by
  unfold rokS ok2B shareB at h
  rw [hr] at h
  simp at h
  refine ⟨h.2.1.1, h.2.1.2, ?_⟩
  split
  · rename_i hg
    have := h.2.2
    rw [if_pos hg] at this
    simpa using this
  · rename_i hg
    have := h.2.2
    rw [if_neg hg] at this
    exact this.2
theorem exts_back (s : Sv) (h : rokS s = true) (R ses : List UInt8) (suite : Int) (n : Nat) (hn : 4 ≤ n) :
    extsL srvF n ⟨R, ses, suite, 771, 0, [], s.retry, [], -1⟩ [] (e4S s) 0 = (⟨R, ses, suite, s.ver, s.grp, s.key, s.retry, s.cook, s.psk⟩, [], 0) := by
  obtain ⟨i1, i2, i3, i4, i5⟩ := rokS_in h
  obtain ⟨l1, l2, l3⟩ := rokS_le h
  obtain ⟨sR, sses, ssuite, sver, sgrp, skey, sretry, scook, spsk⟩ := s
  simp only at i1 i2 i3 i4 i5 l1 l2 l3 ⊢
  cases sretry
  · obtain ⟨-, hc, hg⟩ := rokS_plain h rfl
    simp only at hc hg
    subst hc
    unfold e4S e3S e2S e1S vS
    simp only [List.length_nil, if_true, Bool.false_eq_true, if_false]
    by_cases hg0 : sgrp = 0
    · subst hg0
      rw [if_pos rfl] at hg
      subst hg
      simp only [if_true]
      by_cases hp : 0 ≤ spsk
      · rw [if_pos hp, extsL_ext srvF n (by omega) _ _ [] 43 (by decide) (u16L sver) _ (by rw [u16L_len]; omega) (by simp) (srvF_43 _ i2 _)]
        exact extsL_ext' srvF _ (by omega) _ _ _ 41 (by decide) _ (by rw [u16L_len]; omega) (by simp) (srvF_41 _ (i4 hp) _ rfl)
      · obtain rfl : spsk = -1 := by omega
        rw [if_neg hp]
        exact extsL_ext' srvF _ (by omega) _ _ _ 43 (by decide) _ (by rw [u16L_len]; omega) (by simp) (srvF_43 _ i2 _)
    · rw [if_neg hg0] at hg
      rw [if_neg hg0]
      have hl : (u16L sgrp ++ vecL 2 skey).length ≤ 65535 := by rw [List.length_append, u16L_len, vecL_len]; omega
      by_cases hp : 0 ≤ spsk
      · rw [if_pos hp, List.append_assoc, extsL_ext srvF n (by omega) _ _ [] 43 (by decide) (u16L sver) _ (by rw [u16L_len]; omega) (by simp) (srvF_43 _ i2 _),
          extsL_ext srvF _ (by omega) _ _ _ 51 (by decide) _ _ hl (by simp) (srvF_51 _ i3 _ _ rfl hg0 hg.1 hg.2)]
        exact extsL_ext' srvF _ (by omega) _ _ _ 41 (by decide) _ (by rw [u16L_len]; omega) (by simp) (srvF_41 _ (i4 hp) _ rfl)
      · obtain rfl : spsk = -1 := by omega
        rw [if_neg hp, extsL_ext srvF n (by omega) _ _ [] 43 (by decide) (u16L sver) _ (by rw [u16L_len]; omega) (by simp) (srvF_43 _ i2 _)]
        exact extsL_ext' srvF _ (by omega) _ _ _ 51 (by decide) _ hl (by simp) (srvF_51 _ i3 _ _ rfl hg0 hg.1 hg.2)
  · obtain ⟨hk, hp, hg⟩ := rokS_retry h rfl
    simp only at hk hp hg
    subst hk hp
    have hp' : ¬ (0 : Int) ≤ -1 := by omega
    unfold e4S e3S e2S e1S vS
    simp only [if_true, if_neg hp']
    by_cases hg0 : sgrp = 0
    · subst hg0
      have hc : 0 < scook.length := by rcases hg with h | h; exact absurd rfl h; exact h
      rw [if_neg (by omega)]
      simp only [if_true]
      rw [extsL_ext srvF n (by omega) _ _ [] 43 (by decide) (u16L sver) _ (by rw [u16L_len]; omega) (by simp) (srvF_43 _ i2 _)]
      exact extsL_ext' srvF _ (by omega) _ _ _ 44 (by decide) _ (by rw [vecL_len]; omega) (by simp) (srvF_44 _ _ _ rfl hc l3)
    · rw [if_neg hg0]
      by_cases hc : scook.length = 0
      · obtain rfl : scook = [] := List.eq_nil_of_length_eq_zero hc
        simp only [List.length_nil, if_true]
        rw [extsL_ext srvF n (by omega) _ _ [] 43 (by decide) (u16L sver) _ (by rw [u16L_len]; omega) (by simp) (srvF_43 _ i2 _)]
        exact extsL_ext' srvF _ (by omega) _ _ _ 51 (by decide) _ (by rw [u16L_len]; omega) (by simp) (srvF_51r _ i3 _ rfl hg0)
      · rw [if_neg hc, List.append_assoc, extsL_ext srvF n (by omega) _ _ [] 43 (by decide) (u16L sver) _ (by rw [u16L_len]; omega) (by simp) (srvF_43 _ i2 _),
          extsL_ext srvF _ (by omega) _ _ _ 51 (by decide) _ _ (by rw [u16L_len]; omega) (by simp) (srvF_51r _ i3 _ rfl hg0)]
        exact extsL_ext' srvF _ (by omega) _ _ _ 44 (by decide) _ (by rw [vecL_len]; omega) (by simp) (srvF_44 _ _ _ rfl (by omega) l3)

theorem getS_back (s : Sv) (hR : s.R.length = 32) (h : rokS s = true) : getS (rputL s) = (backS s, 0) := by
  obtain ⟨i1, i2, i3, i4, i5⟩ := rokS_in h
  obtain ⟨l1, l2, l3⟩ := rokS_le h
  have hrl := rndS_len hR
  have e0 : rputL s = u16L 771 ++ (rndS s ++ (vecL 1 s.ses ++ (u16L s.suite ++ (0 :: vecL 2 (e4S s))))) := by
    unfold rputL
    simp
    rfl
  rw [e0]
  unfold getS
  rw [mustS_u16 (by decide)]
  unfold gsT
  obtain ⟨a1, a2, a3⟩ := S_app (rndS s) (vecL 1 s.ses ++ (u16L s.suite ++ (0 :: vecL 2 (e4S s)))) 32 (by rw [hrl]; rfl)
  simp only [a1, a2, a3]
  have hg : rndG (rndS s) = rndS s := by
    unfold rndG
    rw [hrl]
    simp
  rw [hg]
  unfold gsU
  have hv : vecS (vecL 1 s.ses ++ (u16L s.suite ++ (0 :: vecL 2 (e4S s)))) 0 1 0 32 = (s.ses, u16L s.suite ++ (0 :: vecL 2 (e4S s)), 0) := vecS_1 s.ses _ 0 32 (by omega) l1 (by omega)
  simp only [hv]
  unfold gsV
  simp only [rU_u16 i1, mustS_zero]
  unfold gsX
  have he : vecS (vecL 2 (e4S s)) 0 2 0 65535 = (e4S s, [], 0) := vecS_2' (e4S s) 0 65535 (by omega) (by have := e4S_le ⟨l2, l3⟩; omega) (by omega)
  simp only [he]
  have hpos : 4 ≤ (e4S s).length + 1 := by
    have h3 : 6 ≤ (e4S s).length := by
      have k1 : (e1S s).length = 6 := rfl
      have k2 : (e1S s).length ≤ (e2S s).length := by unfold e2S; split <;> simp
      have k3 : (e2S s).length ≤ (e3S s).length := by unfold e3S; split <;> simp
      have k4 : (e3S s).length ≤ (e4S s).length := by unfold e4S; split <;> simp
      omega
    omega
  cases hr : s.retry
  · obtain ⟨hne, hc, hgk⟩ := rokS_plain h hr
    have h1 : getS1 (rndS s) = ⟨s.R, [], 0, 771, 0, [], s.retry, [], -1⟩ := by
      unfold getS1 rndS
      rw [hr, if_neg Bool.false_ne_true, if_neg hne]
      rfl
    rw [h1]
    simp only
    rw [exts_back s h _ _ _ _ hpos]
    simp only
    have hb : gsB ⟨s.R, s.ses, s.suite, s.ver, s.grp, s.key, s.retry, s.cook, s.psk⟩ (insB 0 ([], 0)) = 0 := by
      unfold gsB
      rw [if_neg (by simp only [hr]; simp)]
      rfl
    rw [hb]
    unfold gsZ backS
    rw [hr, if_neg Bool.false_ne_true, if_pos (show doneS [] 0 = 0 from rfl)]
    obtain ⟨sR, sses, ssuite, sver, sgrp, skey, sretry, scook, spsk⟩ := s
    simp only at hr
    rw [hr]
  · obtain ⟨hk, hp, hgk⟩ := rokS_retry h hr
    have h1 : getS1 (rndS s) = ⟨List.replicate 32 0, [], 0, 771, 0, [], s.retry, [], -1⟩ := by
      unfold getS1 rndS
      rw [hr, if_pos rfl, if_pos rfl]
      rfl
    rw [h1]
    simp only
    rw [exts_back s h _ _ _ _ hpos]
    simp only
    have hb : gsB ⟨List.replicate 32 0, s.ses, s.suite, s.ver, s.grp, s.key, s.retry, s.cook, s.psk⟩ (insB 0 ([], 0)) = 0 := by
      unfold gsB
      rw [if_neg (by
        rintro ⟨-, h2, h3⟩
        simp only at h2 h3
        rcases hgk with h | h
        · exact h h2
        · omega)]
      rfl
    rw [hb]
    unfold gsZ backS
    rw [hr, if_pos rfl, if_pos (show doneS [] 0 = 0 from rfl)]
end Go.Proofs.Ytegmimnhkohaoaa
