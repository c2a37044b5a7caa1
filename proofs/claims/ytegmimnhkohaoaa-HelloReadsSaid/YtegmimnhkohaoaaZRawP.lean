/-
  What the program reads of bytes is what the document reads of them: plain laws. No condition.
-/
import Derived.Test.YtegmimnhkohaoaaZg10
namespace Go.Proofs.Ytegmimnhkohaoaa
open Go.RowKit Go.Kx
set_option linter.unusedVariables false
set_option linter.unusedSimpArgs false

theorem rmK {b e : Int} (h : b ≠ 0) : rm b e = b := by unfold rm; rw [if_neg h]
theorem rm3 (b : Int) : rm b 3 ≠ 0 := by unfold rm; split <;> omega
theorem failB_f (b : Int) : failB b false = b := rfl
theorem failB_t (b : Int) : failB b true = rm b 3 := rfl
theorem insB_fail (b : Int) (y : List UInt8 × Int) : insB b y = failB b (decide (doneS y.1 y.2 ≠ 0)) := by
  unfold insB
  by_cases h : doneS y.1 y.2 = 0
  · rw [if_pos h]; simp [h, failB]
  · rw [if_neg h]; simp [h, failB]
theorem cntB_fail (b : Int) (p : Bool) (n : Nat) (most : Int) : cntB (failB b p) n most = failB b (p || decide ((n : Int) < 1 ∨ most < (n : Int))) := by
  unfold cntB
  by_cases h : (n : Int) < 1 ∨ most < (n : Int)
  · rw [if_pos h]
    cases p
    · simp [h, failB]
    · simp [failB, rmK (rm3 b)]
  · rw [if_neg h]; simp [h]
theorem fail_fail (b : Int) (p q : Bool) : failB (failB b p) q = failB b (p || q) := by
  cases p <;> cases q <;> simp [failB, rmK (rm3 b)]
theorem doneS_fail (s : List UInt8) (b : Int) (h : b ≠ 0) : doneS s b = b := by unfold doneS; rw [if_neg h]
theorem doneB_fail (s : List UInt8) (b : Int) (h : b ≠ 0) : doneB s b = false := by unfold doneB; rw [doneS_fail s b h]; simpa using h
theorem failB_ne (b : Int) (p : Bool) (h : b ≠ 0) : failB b p = b := by cases p; rfl; exact rmK h
theorem failB_tne (b : Int) : failB b true ≠ 0 := rm3 b

/-! ### Numbers of two bytes each -/
theorem rU_two (a b : UInt8) (t : List UInt8) : rU (a :: b :: t) 0 2 = ((a.toNat : Int) * 256 + (b.toNat : Int), t, 0) := by
  have hw : wb 0 2 = 0 := by decide
  have hb : badS (a :: b :: t) 0 2 = 0 := by
    unfold badS
    rw [if_neg (by decide), if_neg (by simp only [List.length_cons]; omega)]
  unfold rU
  rw [hw, hb]
  unfold outS leftS
  rw [hb, if_pos rfl, if_pos rfl]
  simp [beN]
theorem rU_odd (a : UInt8) : (rU [a] 0 2).2 = ([a], 2) := by
  have hw : wb 0 2 = 0 := by decide
  have hb : badS [a] 0 2 = 2 := by
    unfold badS rm
    rw [if_neg (by decide), if_pos (by simp), if_pos rfl]
  unfold rU
  rw [hw]
  unfold leftS
  rw [hb]
  simp
theorem nums_loop : ∀ (n : Nat) (l : List UInt8), l.length < n → (l.length % 2 = 0 → loopL uF n l 0 = (pairL l, [], 0) ∧ (pairL l).length * 2 = l.length) ∧ (l.length % 2 ≠ 0 → (loopL uF n l 0).2.2 ≠ 0)
  | 0, l, h => absurd h (by omega)
  | n + 1, [], h => ⟨fun _ => ⟨loopL_stop uF _ _ _ (.inl rfl), rfl⟩, fun h => absurd rfl h⟩
  | n + 1, [a], h => ⟨fun h => by simp at h, fun _ => by
      rw [loopL_go uF n [a] (by simp)]
      show (loopL uF n (rU [a] 0 2).2.1 (rU [a] 0 2).2.2).2.2 ≠ 0
      rw [rU_odd]
      rw [loopL_stop uF n _ _ (.inr (show (2 : Int) ≠ 0 by decide))]
      show (2 : Int) ≠ 0
      decide⟩
  | n + 1, a :: b :: t, h => by
    have ih := nums_loop n t (by simp only [List.length_cons] at h; omega)
    have hg := loopL_go uF n (a :: b :: t) (by simp)
    have hu : uF (a :: b :: t) = ((a.toNat : Int) * 256 + (b.toNat : Int), t, 0) := rU_two a b t
    rw [hu] at hg
    simp only at hg
    refine ⟨fun he => ?_, fun he => ?_⟩
    · have he2 : t.length % 2 = 0 := by simp only [List.length_cons] at he; omega
      obtain ⟨i1, i2⟩ := ih.1 he2
      rw [hg, i1]
      refine ⟨rfl, ?_⟩
      simp only [pairL, List.length_cons]
      omega
    · have he2 : t.length % 2 ≠ 0 := by simp only [List.length_cons] at he; omega
      rw [hg]
      exact ih.2 he2
theorem nums_bad (s : List UInt8) (bad W most : Int) : (numsS s bad W most).2 = (rnumsS s bad W most).2 := by
  unfold numsS rnumsS readS rnB
  generalize vecS s bad W 0 65535 = v
  obtain ⟨b, s1, b1⟩ := v
  simp only
  refine Prod.ext rfl ?_
  show cntB _ _ _ = failB _ _
  rw [insB_fail, cntB_fail]
  congr 1
  obtain ⟨h1, h2⟩ := nums_loop (b.length + 1) b (by omega)
  by_cases he : b.length % 2 = 0
  · obtain ⟨e1, e2⟩ := h1 he
    rw [e1]
    have hd : doneS [] 0 = 0 := by decide
    simp only [hd]
    have : decide (b.length % 2 ≠ 0 ∨ b.length < 2 ∨ 2 * most < (b.length : Int)) = decide (((pairL b).length : Int) < 1 ∨ most < ((pairL b).length : Int)) := by
      apply decide_eq_decide.2
      omega
    rw [this]
    simp
  · have hd : doneS (loopL uF (b.length + 1) b 0).2.1 (loopL uF (b.length + 1) b 0).2.2 ≠ 0 := by rw [doneS_fail _ _ (h2 he)]; exact h2 he
    rw [decide_eq_true hd, decide_eq_true (show b.length % 2 ≠ 0 ∨ b.length < 2 ∨ 2 * most < (b.length : Int) from .inl he)]
    rfl
theorem nums_list (s : List UInt8) (bad W most : Int) (h : (rnumsS s bad W most).2.2 = 0) : (numsS s bad W most).1 = (rnumsS s bad W most).1 := by
  unfold rnumsS rnB at h
  unfold numsS rnumsS readS
  generalize vecS s bad W 0 65535 = v at *
  obtain ⟨b, s1, b1⟩ := v
  simp only at h ⊢
  obtain ⟨h1, h2⟩ := nums_loop (b.length + 1) b (by omega)
  by_cases he : b.length % 2 = 0
  · rw [(h1 he).1]
  · have : decide (b.length % 2 ≠ 0 ∨ b.length < 2 ∨ 2 * most < (b.length : Int)) = true := by simp [he]
    rw [this] at h
    exact absurd h (failB_tne b1)

/-! ### Keys, identities -/
theorem keys_eq (s : List UInt8) : (keysS s 0).1 = (rKeys s).1 ∧ doneB (keysS s 0).2.1 (keysS s 0).2.2 = (rKeys s).2 := by
  unfold keysS rKeys readS
  generalize vecS s 0 2 0 65535 = v
  obtain ⟨b, s1, b1⟩ := v
  simp only
  refine ⟨trivial, ?_⟩
  rw [insB_fail, cntB_fail]
  congr 2
  generalize loopL kF (b.length + 1) b 0 = z
  rw [← Bool.decide_or]
  apply decide_eq_decide.2
  omega
theorem off_eq (s : List UInt8) : (offS s 0).1 = (rOff s true).1 ∧ doneB (offS s 0).2.1 (offS s 0).2.2 = (rOff s true).2 := by
  unfold offS rOff readS
  generalize vecS s 0 2 0 65535 = v
  obtain ⟨b, s1, b1⟩ := v
  simp only
  generalize loopL iF (b.length + 1) b 0 = z
  have e1 : insB b1 z.2 = failB b1 (decide (doneS z.2.1 z.2.2 ≠ 0 ∨ true = false)) := by rw [insB_fail]; simp
  rw [e1]
  generalize vecS s1 _ 2 0 65535 = u
  obtain ⟨c, s2, b2⟩ := u
  simp only
  generalize loopL bF (c.length + 1) c 0 = y
  refine ⟨by first | trivial | rfl, ?_⟩
  rw [insB_fail]
  by_cases hl : z.1.length = y.1.length
  · rw [if_pos hl, cntB_fail]
    congr 2
    rw [← Bool.decide_or]
    apply decide_eq_decide.2
    omega
  · rw [if_neg hl, cntB_fail]
    have : decide (doneS y.2.1 y.2.2 ≠ 0 ∨ z.1.length ≠ y.1.length ∨ z.1.length < 1 ∨ 4 < z.1.length) = true := by simp [hl]
    rw [this, doneB_fail _ _ (rm3 _), doneB_fail _ _ (failB_tne _)]
theorem off_last (s : List UInt8) : (rOff s false).2 = false := by
  unfold rOff
  dsimp only
  generalize loopL iF ((vecS s 0 2 0 65535).1.length + 1) (vecS s 0 2 0 65535).1 0 = z
  generalize hq : decide (doneS z.2.1 z.2.2 ≠ 0 ∨ false = false) = q
  have : q = true := by rw [← hq]; simp
  rw [this]
  have hb := failB_tne (vecS s 0 2 0 65535).2.2
  generalize failB (vecS s 0 2 0 65535).2.2 true = b at *
  have h1 := vecS_bad (vecS s 0 2 0 65535).2.1 b 2 0 65535 hb
  generalize vecS (vecS s 0 2 0 65535).2.1 b 2 0 65535 = u at *
  rw [failB_ne _ _ h1, doneB_fail _ _ h1]

/-! ### One extension -/
theorem doneB_done (y : List UInt8 × Int) (b : Bool) (h : doneB y.1 y.2 = b) : (doneS y.1 y.2 = 0 ↔ b = true) := by
  unfold doneB at h
  rw [← h]; simp
theorem skip_done (s : List UInt8) : doneS (skipS s 0).1 (skipS s 0).2 = 0 := by
  have hb : badS s 0 (s.length : Int) = 0 := by
    unfold badS
    rw [if_neg (by omega), if_neg (by omega)]
  unfold skipS leftS
  rw [hb, if_pos rfl]
  simp [doneS]
theorem cli_eq (st : Cl) (k : Int) (s : List UInt8) (last : Bool) : (doneS (cliF st k s last).2.1 (cliF st k s last).2.2 = 0 ↔ (rcliF st k s last).2 = true) ∧ ((rcliF st k s last).2 = true → (cliF st k s last).1 = (rcliF st k s last).1) := by
  have hn : ∀ W, (numsS s 0 W 4).2 = (rnumsS s 0 W 4).2 := fun W => nums_bad s 0 W 4
  have hz : ∀ W, doneB (rnumsS s 0 W 4).2.1 (rnumsS s 0 W 4).2.2 = true → (numsS s 0 W 4).1 = (rnumsS s 0 W 4).1 := fun W h => nums_list s 0 W 4 (by
    by_cases h0 : (rnumsS s 0 W 4).2.2 = 0
    · exact h0
    · rw [doneB_fail _ _ h0] at h; cases h)
  unfold cliF rcliF
  by_cases h1 : k = 43
  · subst h1
    simp only [if_true]
    refine ⟨doneB_done _ _ (by rw [hn]), fun h => by rw [hz 1 h]⟩
  rw [if_neg h1, if_neg h1]
  by_cases h2 : k = 10
  · subst h2
    simp only [if_true]
    refine ⟨doneB_done _ _ (by rw [hn]), fun h => by rw [hz 2 h]⟩
  rw [if_neg h2, if_neg h2]
  by_cases h3 : k = 13
  · subst h3
    simp only [if_true]
    refine ⟨doneB_done _ _ (by rw [hn]), fun h => by rw [hz 2 h]⟩
  rw [if_neg h3, if_neg h3]
  by_cases h4 : k = 51
  · subst h4
    obtain ⟨e1, e2⟩ := keys_eq s
    rw [if_pos rfl, if_neg (by decide), if_neg (by decide), if_pos rfl]
    exact ⟨doneB_done _ _ e2, fun _ => by rw [e1]⟩
  rw [if_neg h4]
  by_cases h5 : k = 44
  · subst h5
    rw [if_pos rfl, if_pos rfl]
    exact ⟨doneB_done _ _ rfl, fun _ => rfl⟩
  rw [if_neg h5, if_neg h5]
  by_cases h6 : k = 45
  · subst h6
    rw [if_pos rfl, if_pos rfl]
    exact ⟨doneB_done _ _ rfl, fun _ => rfl⟩
  rw [if_neg h6, if_neg h6, if_neg h4]
  by_cases h7 : k = 41
  · subst h7
    rw [if_pos rfl, if_pos rfl]
    cases last
    · have e0 := off_last s
      simp only [Bool.false_eq_true, if_false]
      rw [e0]
      exact ⟨doneB_done ((offS s 0).2.1, rm (offS s 0).2.2 3) _ (doneB_fail _ _ (rm3 _)), fun h => by cases h⟩
    · obtain ⟨e1, e2⟩ := off_eq s
      simp only [if_true]
      exact ⟨doneB_done _ _ e2, fun _ => by rw [e1]⟩
  rw [if_neg h7, if_neg h7]
  exact ⟨⟨fun _ => rfl, fun _ => skip_done s⟩, fun _ => rfl⟩
theorem srv_eq (st : Sv) (k : Int) (s : List UInt8) (last : Bool) : (doneS (srvF st k s last).2.1 (srvF st k s last).2.2 = 0 ↔ (rsrvG st k s last).2 = true) ∧ ((rsrvG st k s last).2 = true → (srvF st k s last).1 = (rsrvG st k s last).1) := by
  have h3 : failB 0 true = 3 := rfl
  have h30 : (3 : Int) ≠ 0 := by decide
  unfold rsrvG srvF rsrvF
  by_cases h1 : k = 43
  · subst h1
    rw [if_pos rfl, if_pos rfl]
    exact ⟨doneB_done _ _ rfl, fun _ => rfl⟩
  rw [if_neg h1, if_neg h1]
  by_cases h2 : k = 51
  · subst h2
    rw [if_pos rfl, if_pos rfl]
    have hf : ∀ (n b : Int), (if n = 0 then rm b 3 else b) = failB b (n == 0) := by
      intro n b
      by_cases h : n = 0
      · subst h; rfl
      · have : (n == 0) = false := by simpa using h
        rw [if_neg h, this]; rfl
    rw [hf, hf]
    cases st.retry <;> exact ⟨doneB_done _ _ rfl, fun _ => rfl⟩
  rw [if_neg h2, if_neg h2]
  by_cases h4 : k = 44
  · subst h4
    rw [if_pos rfl, if_pos rfl]
    cases st.retry
    · have hv := vecS_bad s 3 2 1 64 h30
      have e : failB 0 (!false) = 3 := rfl
      rw [e]
      refine ⟨?_, fun h => ?_⟩
      · rw [doneB_fail _ _ hv]
        exact doneB_done (s, rm 0 3) _ (doneB_fail s _ (rm3 0))
      · replace h : doneB _ _ = true := h
        rw [doneB_fail _ _ hv] at h
        cases h
    · exact ⟨doneB_done _ _ rfl, fun _ => rfl⟩
  rw [if_neg h4, if_neg h4]
  by_cases h5 : k = 41
  · subst h5
    rw [if_pos rfl, if_pos rfl]
    cases st.retry
    · exact ⟨doneB_done _ _ rfl, fun _ => rfl⟩
    · have hv : (rU s 3 2).2.2 ≠ 0 := @badS_ne s (wb 3 2) 2 (by decide)
      rw [h3]
      refine ⟨?_, fun h => ?_⟩
      · rw [doneB_fail _ _ hv]
        exact doneB_done (s, rm 0 3) _ (doneB_fail s _ (rm3 0))
      · replace h : doneB _ _ = true := h
        rw [doneB_fail _ _ hv] at h
        cases h
  rw [if_neg h5, if_neg h5]
  exact ⟨⟨fun _ => rfl, fun _ => skip_done s⟩, fun _ => rfl⟩

/-! ### All extensions -/
/-- Both end well or neither does; where they do, in the same state. -/
def Alike {σ : Type} (x y : σ × List UInt8 × Int) : Prop := (doneS x.2.1 x.2.2 = 0 ↔ doneS y.2.1 y.2.2 = 0) ∧ (doneS y.2.1 y.2.2 = 0 → x.1 = y.1)
theorem alike_bad {σ : Type} (x y : σ × List UInt8 × Int) (hx : x.2.2 ≠ 0) (hy : y.2.2 ≠ 0) : Alike x y := by
  refine ⟨?_, fun h => ?_⟩
  · rw [doneS_fail _ _ hx, doneS_fail _ _ hy]; exact ⟨fun h => absurd h hx, fun h => absurd h hy⟩
  · rw [doneS_fail _ _ hy] at h; exact absurd h hy
theorem exts_eq {σ : Type} (F : σ → Int → List UInt8 → Bool → σ × List UInt8 × Int) (G : σ → Int → List UInt8 → Bool → σ × Bool)
    (hFG : ∀ st k s last, (doneS (F st k s last).2.1 (F st k s last).2.2 = 0 ↔ (G st k s last).2 = true) ∧ ((G st k s last).2 = true → (F st k s last).1 = (G st k s last).1)) :
    ∀ (n : Nat) (st : σ) (had had' : List Int) (s : List UInt8) (bad : Int), (∀ k, k ∈ had ↔ k ∈ had') → Alike (extsL F n st had s bad) (rextsL G n st had' s bad)
  | 0, st, had, had', s, bad, hh => ⟨Iff.rfl, fun _ => rfl⟩
  | n + 1, st, had, had', s, bad, hh => by
    by_cases h : s = [] ∨ bad ≠ 0
    · rw [extsL_stop F _ st had s bad h, rextsL_stop G _ st had' s bad h]
      exact ⟨Iff.rfl, fun _ => rfl⟩
    · have hb : bad = 0 := Classical.byContradiction fun e => h (.inr e)
      subst hb
      have hs : s ≠ [] := fun e => h (.inl e)
      obtain ⟨⟨k, s1, e1⟩, hu⟩ : ∃ u, rU s 0 2 = u := ⟨_, rfl⟩
      obtain ⟨⟨bs, s2, e2⟩, hv⟩ : ∃ v, vecS s1 e1 2 0 65535 = v := ⟨_, rfl⟩
      have hq : headS had s = (k, bs, s2, failB e2 (decide (k ∈ had'))) := by
        unfold headS
        simp only [hu, hv]
        congr 3
        by_cases hm : k ∈ had
        · rw [if_pos hm, decide_eq_true ((hh _).1 hm)]; rfl
        · rw [if_neg hm, decide_eq_false (fun e => hm ((hh _).2 e))]; rfl
      rw [extsL_go F n st had s hs, hq]
      dsimp only
      by_cases h3 : failB e2 (decide (k ∈ had')) = 0
      · rw [rextsL_go G n st had' s hs hu hv rfl h3, h3]
        obtain ⟨f1, f2⟩ := hFG st k bs (decide (s2 = []))
        generalize F st k bs (decide (s2 = [])) = y at *
        generalize G st k bs (decide (s2 = [])) = y' at *
        have hh2 : ∀ x, x ∈ k :: had ↔ x ∈ had' ++ [k] := by
          intro x
          simp only [List.mem_cons, List.mem_append, List.mem_singleton, List.not_mem_nil, or_false, hh x]
          exact Or.comm
        by_cases hy : y'.2 = true
        · rw [hy, f2 hy, insB_fail, decide_eq_false (fun e => e (f1.2 hy))]
          exact exts_eq F G hFG n _ _ _ _ _ hh2
        · have hy2 : y'.2 = false := by simpa using hy
          have hd : doneS y.2.1 y.2.2 ≠ 0 := fun e => hy (f1.1 e)
          rw [hy2, insB_fail, decide_eq_true hd]
          have e3 : (!false) = true := rfl
          rw [e3, extsL_stop F _ _ _ _ _ (.inr (failB_tne 0)), rextsL_stop G _ _ _ _ _ (.inr (failB_tne 0))]
          exact alike_bad _ _ (failB_tne 0) (failB_tne 0)
      · rw [rextsL_break G n st had' s hs hu hv rfl h3, insB_fail, failB_ne _ _ h3, extsL_stop F _ _ _ _ _ (.inr h3)]
        exact alike_bad _ _ h3 h3
/-- Of what was read, the error is told. -/
theorem exts_bad {σ : Type} {x y : σ × List UInt8 × Int} (h : Alike x y) (b : Int) : insB b x.2 = failB b (decide (doneS y.2.1 y.2.2 ≠ 0)) := by
  rw [insB_fail]
  congr 1
  apply decide_eq_decide.2
  rw [ne_eq, ne_eq, h.1]

/-! ### The greetings -/
theorem gcZ_bad (st st' : Cl) (l : List UInt8) (b : Int) (h : b ≠ 0) : gcZ st l b = gcZ st' l b := by
  unfold gcZ
  rw [doneS_fail l b h, if_neg h, if_neg h]
theorem gcX_eq (st : Cl) (l : List UInt8) (bad : Int) : gcX st l bad = rgcX st l bad := by
  unfold gcX rgcX rexS
  simp only
  generalize vecS l bad 2 0 65535 = v
  have ha := exts_eq cliF rcliF cli_eq (v.1.length + 1) st [] [] v.1 0 (fun _ => Iff.rfl)
  generalize extsL cliF (v.1.length + 1) st [] v.1 0 = x at *
  generalize rextsL rcliF (v.1.length + 1) st [] v.1 0 = y at *
  rw [exts_bad ha]
  by_cases h : doneS y.2.1 y.2.2 = 0
  · rw [ha.2 h]
  · rw [decide_eq_true h]
    exact gcZ_bad _ _ _ _ (failB_tne _)
theorem gcX_bad (st st' : Cl) (l : List UInt8) (bad : Int) (h : bad ≠ 0) : rgcX st l bad = rgcX st' l bad := by
  unfold rgcX rexS
  simp only
  have hv := vecS_bad l bad 2 0 65535 h
  generalize vecS l bad 2 0 65535 = v at *
  rw [failB_ne _ _ hv, failB_ne _ _ hv]
  exact gcZ_bad _ _ _ _ hv
theorem cmp_eq (c : List UInt8) (bad : Int) : cmpB c bad = rcmpB c bad := by
  unfold cmpB rcmpB
  by_cases h : c = [0]
  · rw [if_pos h, decide_eq_false (fun e => e h)]; rfl
  · rw [if_neg h, decide_eq_true h]; rfl
theorem gcC_eq (st : Cl) (l : List UInt8) (bad : Int) : gcC st l bad = rgcC st l bad := by
  unfold gcC rgcC
  simp only
  rw [cmp_eq, gcX_eq]
theorem gcC_bad (st st' : Cl) (l : List UInt8) (bad : Int) (h : bad ≠ 0) : rgcC st l bad = rgcC st' l bad := by
  unfold rgcC rcmpB
  simp only
  exact gcX_bad _ _ _ _ (by rw [failB_ne _ _ (vecS_bad _ _ _ _ _ h)]; exact vecS_bad _ _ _ _ _ h)
theorem gcN_eq (st : Cl) (l : List UInt8) (bad : Int) : gcN st l bad = rgcN st l bad := by
  unfold gcN rgcN
  simp only
  rw [gcC_eq, nums_bad]
  by_cases h : (rnumsS l bad 2 8).2.2 = 0
  · rw [nums_list _ _ _ _ h]
  · exact gcC_bad _ _ _ _ h
theorem must_fail (l : List UInt8) (bad n W : Int) : mustS l bad n W = ((rU l bad W).2.1, failB (rU l bad W).2.2 ((rU l bad W).1 != n)) := by
  unfold mustS
  refine Prod.ext rfl ?_
  show (if _ then _ else _) = _
  by_cases h : (rU l bad W).1 = n
  · rw [if_pos h]
    have : ((rU l bad W).1 != n) = false := by simpa using h
    rw [this]; rfl
  · rw [if_neg h]
    have : ((rU l bad W).1 != n) = true := by simpa using h
    rw [this]; rfl
theorem getC_eq (b : List UInt8) : getC b = rgetC b := by
  unfold getC rgetC gcT rgcT gcV rgcV
  rw [must_fail]
  simp only
  rw [gcN_eq]

theorem gsZ_bad (st st' : Sv) (l : List UInt8) (b : Int) (h : b ≠ 0) : gsZ st l b = gsZ st' l b := by
  unfold gsZ
  rw [doneS_fail l b h, if_neg h, if_neg h]
theorem gsB_fail (st : Sv) (b : Int) : gsB st b = failB b (decide (st.retry = true ∧ st.grp = 0 ∧ st.cook.length = 0)) := by
  unfold gsB
  by_cases h : st.retry = true ∧ st.grp = 0 ∧ st.cook.length = 0
  · rw [if_pos h, decide_eq_true h]; rfl
  · rw [if_neg h, decide_eq_false h]; rfl
theorem gsX_eq (st : Sv) (m : List UInt8 × Int) : gsX st m = rgsX st m.1 m.2 := by
  have hr : rgsX st m.1 m.2 = gsZ (rexSv st m.1 m.2).1 (rexSv st m.1 m.2).2.1 (gsB (rexSv st m.1 m.2).1 (rexSv st m.1 m.2).2.2) := by
    rw [gsB_fail]; rfl
  rw [hr]
  unfold gsX rexSv
  dsimp only
  generalize vecS m.1 m.2 2 0 65535 = v
  have ha := exts_eq srvF rsrvG srv_eq (v.1.length + 1) st [] [] v.1 0 (fun _ => Iff.rfl)
  generalize extsL srvF (v.1.length + 1) st [] v.1 0 = x at *
  generalize rextsL rsrvG (v.1.length + 1) st [] v.1 0 = y at *
  rw [exts_bad ha]
  by_cases h : doneS y.2.1 y.2.2 = 0
  · rw [ha.2 h]
  · rw [decide_eq_true h, gsB_fail, gsB_fail, failB_ne _ _ (failB_tne _), failB_ne _ _ (failB_tne _)]
    exact gsZ_bad _ _ _ _ (failB_tne _)
theorem getS_eq (b : List UInt8) : getS b = rgetS b := by
  unfold getS rgetS gsT rgsT gsU rgsU gsV rgsV
  rw [must_fail]
  simp only
  rw [gsX_eq, must_fail]

/-! ### As many identities as binders, and few of them -/
def FewC (st : Cl) : Prop := st.ids.length = st.bnd.length ∧ st.ids.length ≤ 4 ∧ st.shs.length ≤ 4
theorem cntB_le (b : Int) (n : Nat) (s : List UInt8) (h : doneS s (cntB b n 4) = 0) : n ≤ 4 := by
  by_cases h0 : (n : Int) < 1 ∨ 4 < (n : Int)
  · unfold cntB at h
    rw [if_pos h0, doneS_fail _ _ (rm3 _)] at h
    exact absurd h (rm3 _)
  · omega
theorem cliF_few (st : Cl) (k : Int) (s : List UInt8) (last : Bool) (h : FewC st) (hd : doneS (cliF st k s last).2.1 (cliF st k s last).2.2 = 0) : FewC (cliF st k s last).1 := by
  by_cases h7 : k = 41
  · subst h7
    unfold cliF at hd ⊢
    rw [if_neg (by decide), if_neg (by decide), if_neg (by decide), if_neg (by decide), if_neg (by decide), if_neg (by decide), if_pos rfl] at hd ⊢
    simp only at hd ⊢
    cases last
    · simp only [Bool.false_eq_true, if_false] at hd
      rw [doneS_fail _ _ (rm3 _)] at hd
      exact absurd hd (rm3 _)
    · simp only [if_true] at hd
      unfold offS at hd ⊢
      simp only at hd ⊢
      generalize readS iF s 0 2 = x at *
      generalize readS bF x.2.1 x.2.2 2 = y at *
      by_cases hl : x.1.length = y.1.length
      · rw [if_pos hl] at hd
        exact ⟨hl, cntB_le _ _ _ hd, h.2.2⟩
      · rw [if_neg hl, doneS_fail _ _ (rm3 _)] at hd
        exact absurd hd (rm3 _)
  by_cases h5 : k = 51
  · subst h5
    unfold cliF at hd ⊢
    rw [if_neg (by decide), if_neg (by decide), if_neg (by decide), if_pos rfl] at hd ⊢
    unfold keysS at hd ⊢
    simp only at hd ⊢
    exact ⟨h.1, h.2.1, cntB_le _ _ _ hd⟩
  · unfold cliF
    rw [if_neg h7, if_neg h5]
    split
    · exact h
    split
    · exact h
    split
    · exact h
    split
    · exact h
    split
    · exact h
    exact h
theorem extsL_few : ∀ (n : Nat) (st : Cl) (had : List Int) (s : List UInt8) (bad : Int), FewC st → doneS (extsL cliF n st had s bad).2.1 (extsL cliF n st had s bad).2.2 = 0 → FewC (extsL cliF n st had s bad).1
  | 0, st, had, s, bad, h, _ => h
  | n + 1, st, had, s, bad, h, hd => by
    by_cases h0 : s = [] ∨ bad ≠ 0
    · rw [extsL_stop cliF _ st had s bad h0]; exact h
    · unfold extsL at hd ⊢
      rw [if_neg h0] at hd ⊢
      simp only at hd ⊢
      generalize headS had s = q at *
      have hp := cliF_few st q.1 q.2.1 (decide (q.2.2.1 = [])) h
      generalize cliF st q.1 q.2.1 (decide (q.2.2.1 = [])) = y at *
      by_cases hy : doneS y.2.1 y.2.2 = 0
      · exact extsL_few n y.1 _ _ _ (hp hy) hd
      · rw [insB_fail, decide_eq_true hy, extsL_stop cliF _ _ _ _ _ (.inr (failB_tne _))] at hd
        rw [doneS_fail _ _ (failB_tne _)] at hd
        exact absurd hd (failB_tne _)
theorem gcX_few (st : Cl) (l : List UInt8) (bad : Int) (h : FewC st) : FewC (gcX st l bad).1 := by
  unfold gcX
  simp only
  generalize vecS l bad 2 0 65535 = v
  have hp := extsL_few (v.1.length + 1) st [] v.1 0 h
  generalize extsL cliF (v.1.length + 1) st [] v.1 0 = x at *
  unfold gcZ
  split
  · rename_i hd
    refine hp (Classical.byContradiction fun hx => ?_)
    rw [insB_fail, decide_eq_true hx, doneS_fail _ _ (failB_tne _)] at hd
    exact failB_tne _ hd
  · exact ⟨rfl, Nat.zero_le _, Nat.zero_le _⟩
theorem getC_few (b : List UInt8) : FewC (getC b).1 := by
  unfold getC gcT gcV gcN gcC
  simp only
  exact gcX_few _ _ _ ⟨rfl, Nat.zero_le _, Nat.zero_le _⟩
end Go.Proofs.Ytegmimnhkohaoaa
