/-
  The contract of hello.Server's extension. Condition: at most 2 to the 47th bytes.
-/
import Derived.Test.YtegmimnhkohaoaaHelH
import Derived.Test.YtegmimnhkohaoaaHelS
namespace Go.Proofs.Ytegmimnhkohaoaa
open Go.RowKit Go.Kx
set_option linter.unusedVariables false
set_option linter.unusedSimpArgs false
set_option linter.unusedSectionVars false

/-- A slice of bytes that lies in blocks of S. -/
def SlS (w : World) (S : Nat → Prop) (p : Option Addr) (n c : Nat) (l : List UInt8) : Prop := l.length = n ∧ Rd w S p l ∧ (p = none → c = 0) ∧ n ≤ c ∧ c ≤ maxLen
theorem SlS.only {w w' : World} {S q : Nat → Prop} {p : Option Addr} {n c : Nat} {l : List UInt8} (h : SlS w S p n c l) (ho : Only q w w') (hq : ∀ k, S k → ¬ q k) : SlS w' S p n c l := ⟨h.1, h.2.1.only ho hq, h.2.2⟩
theorem SlS.mono {w : World} {S T : Nat → Prop} {p : Option Addr} {n c : Nat} {l : List UInt8} (h : SlS w S p n c l) (hb : ∀ k, k < w.heap.size → S k → T k) : SlS w T p n c l := ⟨h.1, h.2.1.mono hb, h.2.2⟩
theorem SlS.of_own {w : World} {S : Nat → Prop} {g : Nat} {p : Option Addr} {n c : Nat} {l : List UInt8} (h : Own w g (.slice p n c) l) (hn : l.length = n) (hg : S g) : SlS w S p n c l := by
  obtain ⟨p', c', he, h1, h2, h3, h4, h5⟩ := h.form
  cases he
  exact ⟨hn, h3.mono (fun k _ e => by rw [e]; exact hg), h4, by rw [← hn] at *; exact h1, h2⟩
theorem SlS.nil (w : World) (S : Nat → Prop) : SlS w S none 0 0 [] := ⟨rfl, Rd.nil _ _ _, fun _ => rfl, Nat.le_refl _, by unfold maxLen; omega⟩

/-- The cells behind the random number. -/
def cellsL (s : Sv) (z : S3) : List Value := [.slice z.p1 z.n1 z.c1, .int .i64 s.suite, .int .i64 s.ver, .int .i64 s.grp, .slice z.p2 z.n2 z.c2, .bool s.retry, .slice z.p3 z.n3 z.c3, .int .i64 s.psk]
theorem svV_cells (s : Sv) (z : S3) : svV s z = (s.R.map B8 ++ cellsL s z).toArray := rfl
structure SvB (w : World) (q0 : Nat) (S : Nat → Prop) (s : Sv) (z : S3) : Prop where
  b : Blk w q0 33 (svV s z)
  len : s.R.length = 32
  s1 : SlS w S z.p1 z.n1 z.c1 s.ses
  s2 : SlS w S z.p2 z.n2 z.c2 s.key
  s3 : SlS w S z.p3 z.n3 z.c3 s.cook
def SvAt (q0 : Nat) (w : World) (S : Nat → Prop) (s : Sv) : Prop := ∃ z, SvB w q0 S s z
section
variable {w w' : World} {q0 : Nat} {S T X : Nat → Prop} {s : Sv} {z : S3}
theorem SvB.only (h : SvB w q0 S s z) (ho : Only X w w') (hX : ∀ k, X k → ¬ S k ∧ k ≠ q0) : SvB w' q0 S s z :=
  ⟨h.b.only ho (fun hx => (hX _ hx).2 rfl), h.len, h.s1.only ho (fun k hk hx => (hX k hx).1 hk), h.s2.only ho (fun k hk hx => (hX k hx).1 hk), h.s3.only ho (fun k hk hx => (hX k hx).1 hk)⟩
theorem SvB.mono (h : SvB w q0 S s z) (hT : ∀ k, k < w.heap.size → S k → T k) : SvB w q0 T s z := ⟨h.b, h.len, h.s1.mono hT, h.s2.mono hT, h.s3.mono hT⟩
theorem SvB.cell (h : SvB w q0 S s z) (k : Nat) : w.cell? ⟨q0, 32 + k, none⟩ = (cellsL s z)[k]? := by
  rw [h.b.c, svV_cells, List.getElem?_toArray, List.getElem?_append_right (by simp [h.len])]
  simp [h.len]
theorem SvB.put (h : SvB w q0 S s z) (hq : ¬ S q0) (k : Nat) (v : Value) (s' : Sv) (z' : S3) (hL : (cellsL s z).set k v = cellsL s' z') (hR : s'.R = s.R)
    (h1 : SlS w S z'.p1 z'.n1 z'.c1 s'.ses) (h2 : SlS w S z'.p2 z'.n2 z'.c2 s'.key) (h3 : SlS w S z'.p3 z'.n3 z'.c3 s'.cook) : SvB (w.setCell ⟨q0, 32 + k, none⟩ v) q0 S s' z' := by
  have ho : Only (· = q0) w (w.setCell ⟨q0, 32 + k, none⟩ v) := (Only.refl (fun k => k = q0) w).setCell _ _ (.inl rfl)
  refine ⟨?_, by rw [hR]; exact h.len, h1.only ho (fun x hx e => hq (e ▸ hx)), h2.only ho (fun x hx e => hq (e ▸ hx)), h3.only ho (fun x hx e => hq (e ▸ hx))⟩
  have hb := h.b
  unfold Blk at *
  rw [svV_cells, hR, ← hL]
  rw [svV_cells] at hb
  have e : ((s.R.map B8 ++ cellsL s z).toArray.setIfInBounds (32 + k) v) = (s.R.map B8 ++ (cellsL s z).set k v).toArray := by
    rw [List.setIfInBounds_toArray]
    congr 1
    rw [List.set_append, if_neg (by simp [h.len])]
    simp [h.len]
  rw [← e]
  simp [World.setCell, Array.getElem?_modify, hb]
end

/-- What one extension makes of a Server. -/
def srvF (st : Sv) (kind : Int) (s : List UInt8) (last : Bool) : Sv × List UInt8 × Int :=
  if kind = 43 then ({ st with ver := (rU s 0 2).1 }, (rU s 0 2).2)
  else if kind = 51 then
    (if st.retry then ({ st with grp := (rU s 0 2).1 }, (rU s 0 2).2.1, if (rU s 0 2).1 = 0 then rm (rU s 0 2).2.2 3 else (rU s 0 2).2.2)
    else ({ st with grp := (rU s 0 2).1, key := (vecS (rU s 0 2).2.1 (rU s 0 2).2.2 2 1 64).1 }, (vecS (rU s 0 2).2.1 (rU s 0 2).2.2 2 1 64).2.1, if (rU s 0 2).1 = 0 then rm (vecS (rU s 0 2).2.1 (rU s 0 2).2.2 2 1 64).2.2 3 else (vecS (rU s 0 2).2.1 (rU s 0 2).2.2 2 1 64).2.2))
  else if kind = 44 then (if st.retry then ({ st with cook := (vecS s 0 2 1 64).1 }, (vecS s 0 2 1 64).2) else (st, s, rm 0 3))
  else if kind = 41 then (if st.retry then (st, s, rm 0 3) else ({ st with psk := (rU s 0 2).1 }, (rU s 0 2).2))
  else (st, skipS s 0)

theorem knownSE : Known 48 := fun _ _ => by kernel_rfl

/-- What the call leaves. -/
def SeR (q0 : Nat) (S : Nat → Prop) (w : World) (q g : Nat) (y : Sv × List UInt8 × Int) : Ending → World → Prop := ReadsR w q g y.2 (fun w' => SvAt q0 w' (fun k => S k ∨ w.heap.size ≤ k) y.1) (· = q0)

theorem SeR.of {q0 : Nat} {S : Nat → Prop} {w w2 : World} {q g : Nat} (y : Sv × List UInt8 × Int) (z : S3) (h : SvB w2 q0 (fun k => S k ∨ w.heap.size ≤ k) y.1 z) (hc : Cur w2 q g y.2.1 y.2.2) (ho : Only (fun k => k = q ∨ k = q0) w w2) : SeR q0 S w q g y (.returned ret0) w2 := ⟨rfl, hc, ⟨z, h⟩, ho⟩
theorem cur_set {w : World} {q g q0 : Nat} {s : List UInt8} {b : Int} (h : Cur w q g s b) (h1 : q ≠ q0) (h2 : g ≠ q0) {o : Nat} (v : Value) : Cur (w.setCell ⟨q0, o, none⟩ v) q g s b := h.only ((Only.refl (fun k => k = q0) w).setCell _ _ (.inl rfl)) h1 h2
theorem only_set {w w1 : World} {q q0 : Nat} (h : Only (· = q) w w1) (o : Nat) (v : Value) : Only (fun k => k = q ∨ k = q0) w (w1.setCell ⟨q0, o, none⟩ v) := (h.mono (fun _ _ h => .inl h)).setCell _ _ (.inl (.inr rfl))
set_option maxHeartbeats 4000000 in
set_option maxRecDepth 100000 in
theorem se43 (q0 : Nat) (w : World) (S : Nat → Prop) (st : Sv) (z : S3) (q g : Nat) (s : List UInt8) (last : Bool) (hA : SvB w q0 S st z) (hSq : ¬ S q) (hS0 : ¬ S q0) (hqq : q ≠ q0) (hgq : g ≠ q0) (hC : Cur w q g s 0) (hl : s.length ≤ 140737488355328) : Calls Try.prog 48 #[rp q0, .int .i64 43, rp q, .bool last] w (SeR q0 S w q g (srvF st 43 s last)) := by
  have hF : srvF st 43 s last = ({ st with ver := (rU s 0 2).1 }, (rU s 0 2).2) := if_pos rfl
  rw [hF]
  have HU := Lib.hid (ruint_c q g s 0 2 w hC)
  clear hF
  generalize rU s 0 2 = u at *
  have HA := Lib.hid hA
  have hlt := hA.b.lt
  clear hA hC
  go_enter Try.func48, Try.ntmps48
  go_wp2_with (first
    | (go_at_call 46; refine HU.out.mono ?_; rintro e w1 ⟨rfl, hc, ho⟩; have H1 := Lib.hid (And.intro (HA.out.only ho (fun k hk => by subst hk; exact ⟨hSq, hqq⟩)) (And.intro hc ho)); have c34 := H1.out.1.cell 2; have f34 := H1.out.1.b.fr 34; clear hc ho))
  go_end0
  have hp := H1.out.1.put hS0 2 (.int .i64 u.1) { st with ver := u.1 } z rfl rfl H1.out.1.s1 H1.out.1.s2 H1.out.1.s3
  exact SeR.of _ _ (hp.mono (fun _ _ h => .inl h)) (cur_set H1.out.2.1 hqq hgq _) (only_set H1.out.2.2 _ _)

set_option maxHeartbeats 4000000 in
set_option maxRecDepth 100000 in
theorem se41 (q0 : Nat) (w : World) (S : Nat → Prop) (st : Sv) (z : S3) (q g : Nat) (s : List UInt8) (last : Bool) (hA : SvB w q0 S st z) (hSq : ¬ S q) (hS0 : ¬ S q0) (hqq : q ≠ q0) (hgq : g ≠ q0) (hC : Cur w q g s 0) (hl : s.length ≤ 140737488355328) : Calls Try.prog 48 #[rp q0, .int .i64 41, rp q, .bool last] w (SeR q0 S w q g (srvF st 41 s last)) := by
  obtain ⟨re, hre⟩ : ∃ re, re = st.retry := ⟨_, rfl⟩
  have hF : srvF st 41 s last = if re then (st, s, rm 0 3) else ({ st with psk := (rU s 0 2).1 }, (rU s 0 2).2) := by rw [hre]; rfl
  rw [hF]
  have HU := Lib.hid (ruint_c q g s 0 2 w hC)
  clear hF
  generalize rU s 0 2 = u at *
  have c37 := hA.cell 5
  simp only [cellsL, List.getElem?_cons_succ, List.getElem?_cons_zero] at c37
  rw [← hre] at c37
  clear hre
  have HA := Lib.hid (And.intro hA hC)
  have hlt := hA.b.lt
  clear hA hC
  cases re
  · go_enter Try.func48, Try.ntmps48
    go_wp2_with (first
      | (go_at_call 46; refine HU.out.mono ?_; rintro e w1 ⟨rfl, hc, ho⟩; have H1 := Lib.hid (And.intro (HA.out.1.only ho (fun k hk => by subst hk; exact ⟨hSq, hqq⟩)) (And.intro hc ho)); have c39 := H1.out.1.cell 7; have f39 := H1.out.1.b.fr 39; clear hc ho))
    go_end0
    have hp := H1.out.1.put hS0 7 (.int .i64 u.1) { st with psk := u.1 } z rfl rfl H1.out.1.s1 H1.out.1.s2 H1.out.1.s3
    exact SeR.of _ _ (hp.mono (fun _ _ h => .inl h)) (cur_set H1.out.2.1 hqq hgq _) (only_set H1.out.2.2 _ _)
  · go_enter Try.func48, Try.ntmps48
    go_wp2_with (first
      | (go_at_call 49; refine (fail_c q g s 0 _ HA.out.2).mono ?_; rintro e w1 ⟨rfl, hc, ho⟩; have H1 := Lib.hid (And.intro (HA.out.1.only ho (fun k hk => by subst hk; exact ⟨hSq, hqq⟩)) (And.intro hc ho)); clear hc ho))
    go_end0
    exact SeR.of _ _ (H1.out.1.mono (fun _ _ h => .inl h)) H1.out.2.1 (H1.out.2.2.mono (fun _ _ h => .inl h))

set_option maxHeartbeats 4000000 in
set_option maxRecDepth 100000 in
theorem se44 (q0 : Nat) (w : World) (S : Nat → Prop) (st : Sv) (z : S3) (q g : Nat) (s : List UInt8) (last : Bool) (hA : SvB w q0 S st z) (hSq : ¬ S q) (hS0 : ¬ S q0) (hqq : q ≠ q0) (hgq : g ≠ q0) (hC : Cur w q g s 0) (hl : s.length ≤ 140737488355328) : Calls Try.prog 48 #[rp q0, .int .i64 44, rp q, .bool last] w (SeR q0 S w q g (srvF st 44 s last)) := by
  obtain ⟨re, hre⟩ : ∃ re, re = st.retry := ⟨_, rfl⟩
  have hF : srvF st 44 s last = if re then ({ st with cook := (vecS s 0 2 1 64).1 }, (vecS s 0 2 1 64).2) else (st, s, rm 0 3) := by rw [hre]; rfl
  rw [hF]
  have HV := Lib.hid (vector_c q g s 0 2 1 64 w hC hl)
  clear hF
  generalize vecS s 0 2 1 64 = u at *
  have c37 := hA.cell 5
  simp only [cellsL, List.getElem?_cons_succ, List.getElem?_cons_zero] at c37
  rw [← hre] at c37
  clear hre
  have HA := Lib.hid (And.intro hA hC)
  have hlt := hA.b.lt
  clear hA hC
  cases re
  · go_enter Try.func48, Try.ntmps48
    go_wp2_with (first
      | (go_at_call 49; refine (fail_c q g s 0 _ HA.out.2).mono ?_; rintro e w1 ⟨rfl, hc, ho⟩; have H1 := Lib.hid (And.intro (HA.out.1.only ho (fun k hk => by subst hk; exact ⟨hSq, hqq⟩)) (And.intro hc ho)); clear hc ho))
    go_end0
    exact SeR.of _ _ (H1.out.1.mono (fun _ _ h => .inl h)) H1.out.2.1 (H1.out.2.2.mono (fun _ _ h => .inl h))
  · go_enter Try.func48, Try.ntmps48
    go_wp2_with (first
      | (go_at_call 45; refine HV.out.mono ?_; rintro e w1 ⟨g', p, c, rfl, hg', hO, hc, ho⟩; have H1 := Lib.hid (And.intro (HA.out.1.only ho (fun k hk => by subst hk; exact ⟨hSq, hqq⟩)) (And.intro hc (And.intro ho hO))); have c38 := H1.out.1.cell 6; have f38 := H1.out.1.b.fr 38; clear hc ho hO))
    go_end0
    have hw := H1.out.1.mono (T := fun k => S k ∨ w.heap.size ≤ k) (fun _ _ h => .inl h)
    have hp := hw.put (by rintro (h | h); exact hS0 h; omega) 6 (.slice p u.1.length c) { st with cook := u.1 } { z with p3 := p, n3 := u.1.length, c3 := c } rfl rfl hw.s1 hw.s2 (SlS.of_own H1.out.2.2.2 rfl (.inr hg'))
    exact SeR.of _ _ hp (cur_set H1.out.2.1 hqq hgq _) (only_set H1.out.2.2.1 _ _)

set_option maxHeartbeats 4000000 in
set_option maxRecDepth 100000 in
theorem seOther (q0 : Nat) (w : World) (S : Nat → Prop) (st : Sv) (z : S3) (q g : Nat) (s : List UInt8) (last : Bool) (hA : SvB w q0 S st z) (hSq : ¬ S q) (hS0 : ¬ S q0) (hqq : q ≠ q0) (hgq : g ≠ q0) (hC : Cur w q g s 0) (hl : s.length ≤ 140737488355328) (kind : Int) (h1 : kind ≠ 43) (h2 : kind ≠ 51) (h3 : kind ≠ 44) (h4 : kind ≠ 41) : Calls Try.prog 48 #[rp q0, .int .i64 kind, rp q, .bool last] w (SeR q0 S w q g (srvF st kind s last)) := by
  have hF : srvF st kind s last = (st, skipS s 0) := by unfold srvF; rw [if_neg h1, if_neg h2, if_neg h3, if_neg h4]
  rw [hF]
  have b1 : (kind == 43) = false := by simpa using h1
  have b2 : (kind == 51) = false := by simpa using h2
  have b3 : (kind == 44) = false := by simpa using h3
  have b4 : (kind == 41) = false := by simpa using h4
  have HA := Lib.hid (And.intro hA hC)
  clear hA hC hF h1 h2 h3 h4
  go_enter Try.func48, Try.ntmps48
  go_wp2_with (first
    | (go_at_call 86; refine (skip_c q g s 0 _ HA.out.2 hl).mono ?_; rintro e w1 ⟨rfl, hc, ho⟩; have H1 := Lib.hid (And.intro (HA.out.1.only ho (fun k hk => by subst hk; exact ⟨hSq, hqq⟩)) (And.intro hc ho)); clear hc ho))
  go_end0
  exact SeR.of _ _ (H1.out.1.mono (fun _ _ h => .inl h)) H1.out.2.1 (H1.out.2.2.mono (fun _ _ h => .inl h))

set_option maxHeartbeats 4000000 in
set_option maxRecDepth 100000 in
theorem se51 (q0 : Nat) (w : World) (S : Nat → Prop) (st : Sv) (z : S3) (q g : Nat) (s : List UInt8) (last : Bool) (hA : SvB w q0 S st z) (hSq : ¬ S q) (hS0 : ¬ S q0) (hqq : q ≠ q0) (hgq : g ≠ q0) (hC : Cur w q g s 0) (hl : s.length ≤ 140737488355328) : Calls Try.prog 48 #[rp q0, .int .i64 51, rp q, .bool last] w (SeR q0 S w q g (srvF st 51 s last)) := by
  obtain ⟨re, hre⟩ : ∃ re, re = st.retry := ⟨_, rfl⟩
  have hF : srvF st 51 s last = if re then ({ st with grp := (rU s 0 2).1 }, (rU s 0 2).2.1, if (rU s 0 2).1 = 0 then rm (rU s 0 2).2.2 3 else (rU s 0 2).2.2)
    else ({ st with grp := (rU s 0 2).1, key := (vecS (rU s 0 2).2.1 (rU s 0 2).2.2 2 1 64).1 }, (vecS (rU s 0 2).2.1 (rU s 0 2).2.2 2 1 64).2.1, if (rU s 0 2).1 = 0 then rm (vecS (rU s 0 2).2.1 (rU s 0 2).2.2 2 1 64).2.2 3 else (vecS (rU s 0 2).2.1 (rU s 0 2).2.2 2 1 64).2.2) := by rw [hre]; rfl
  rw [hF]
  have HU := Lib.hid (ruint_c q g s 0 2 w hC)
  have hul := rU_left s 0 2
  clear hF
  obtain ⟨u, hu⟩ : ∃ u, u = rU s 0 2 := ⟨_, rfl⟩
  rw [← hu] at HU hul ⊢
  obtain ⟨a, s1, b1⟩ := u
  simp only at HU hul ⊢
  have HV := Lib.hid (fun w1 h => vector_c q g s1 b1 2 1 64 w1 h (by omega))
  obtain ⟨v, hv⟩ : ∃ v, v = vecS s1 b1 2 1 64 := ⟨_, rfl⟩
  rw [← hv] at HV ⊢
  have HRE := Lib.hid (And.intro hre hA.cell)
  have HA := Lib.hid (And.intro hA hC)
  have hlt := hA.b.lt
  have hql := hC.lt
  clear hA hC hu hv hre
  by_cases ha : a = 0
  · subst ha
    simp only [if_true]
    cases re
    · go_enter Try.func48, Try.ntmps48
      go_wp2_with (first
        | (go_at_call 46; refine HU.out.mono ?_; rintro e w1 ⟨rfl, hc, ho⟩; have H1 := Lib.hid (And.intro (HA.out.1.only ho (fun k hk => by subst hk; exact ⟨hSq, hqq⟩)) (And.intro hc ho)); have c35 := H1.out.1.cell 3; have f35 := H1.out.1.b.fr 35; have P1 := Lib.hid (And.intro (H1.out.1.put hS0 3 (.int .i64 0) { st with grp := 0 } z rfl rfl H1.out.1.s1 H1.out.1.s2 H1.out.1.s3) (And.intro (cur_set (o := 35) H1.out.2.1 hqq hgq (.int .i64 0)) (only_set (q0 := q0) H1.out.2.2 35 (.int .i64 0)))); have e35 : (w1.setCell ⟨q0, 35, none⟩ (.int .i64 0)).cell? ⟨q0, 35, none⟩ = some (.int .i64 0) := P1.out.1.cell 3; have e37 : (w1.setCell ⟨q0, 35, none⟩ (.int .i64 0)).cell? ⟨q0, 37, none⟩ = some (.bool false) := (P1.out.1.cell 5).trans (by show some (Value.bool st.retry) = _; rw [← HRE.out.1]); clear hc ho)
        | (go_at_call 45; refine (HV.out _ P1.out.2.1).mono ?_; rintro e w3 ⟨g', p, c, rfl, hg', hO, hc, ho⟩; have hz : w.heap.size ≤ g' := (Nat.le_trans P1.out.2.2.size hg'); have P3 := Lib.hid (And.intro ((P1.out.1.only ho (fun k hk => by subst hk; exact ⟨hSq, hqq⟩)).mono (T := fun k => S k ∨ w.heap.size ≤ k) (fun _ _ h => .inl h)) (And.intro hc (And.intro (P1.out.2.2.then (ho.mono (fun _ _ h => .inl h))) hO))); have c36 := P3.out.1.cell 4; have f36 := P3.out.1.b.fr 36; have P4 := Lib.hid (And.intro (P3.out.1.put (s' := { st with grp := 0, key := v.1 }) (z' := { z with p2 := p, n2 := v.1.length, c2 := c }) (by rintro (h | h); exact hS0 h; omega) 4 (.slice p v.1.length c) rfl rfl P3.out.1.s1 (SlS.of_own P3.out.2.2.2 rfl (.inr hz)) P3.out.1.s3) (And.intro (cur_set (o := 36) P3.out.2.1 hqq hgq (.slice p v.1.length c)) (P3.out.2.2.1.setCell ⟨q0, 36, none⟩ (.slice p v.1.length c) (.inl (.inr rfl))))); have g35 : (w3.setCell ⟨q0, 36, none⟩ (.slice p v.1.length c)).cell? ⟨q0, 35, none⟩ = some (.int .i64 0) := P4.out.1.cell 3; clear hc ho hO hg')
        | (go_at_call 49; refine (fail_c q g _ _ _ P4.out.2.1).mono ?_; rintro e w5 ⟨rfl, hc5, ho5⟩))
      go_end0
      have hq : q < w.heap.size := hql
      exact SeR.of (w := w) ({ st with grp := 0, key := v.1 }, v.2.1, _) _ (P4.out.1.only ho5 (fun k hk => by subst hk; exact ⟨by rintro (h | h); exact hSq h; omega, hqq⟩)) hc5 (P4.out.2.2.then (ho5.mono (fun _ _ h => .inl h)))
    · go_enter Try.func48, Try.ntmps48
      go_wp2_with (first
        | (go_at_call 46; refine HU.out.mono ?_; rintro e w1 ⟨rfl, hc, ho⟩; have H1 := Lib.hid (And.intro (HA.out.1.only ho (fun k hk => by subst hk; exact ⟨hSq, hqq⟩)) (And.intro hc ho)); have c35 := H1.out.1.cell 3; have f35 := H1.out.1.b.fr 35; have P1 := Lib.hid (And.intro (H1.out.1.put hS0 3 (.int .i64 0) { st with grp := 0 } z rfl rfl H1.out.1.s1 H1.out.1.s2 H1.out.1.s3) (And.intro (cur_set (o := 35) H1.out.2.1 hqq hgq (.int .i64 0)) (only_set (q0 := q0) H1.out.2.2 35 (.int .i64 0)))); have e35 : (w1.setCell ⟨q0, 35, none⟩ (.int .i64 0)).cell? ⟨q0, 35, none⟩ = some (.int .i64 0) := P1.out.1.cell 3; have e37 : (w1.setCell ⟨q0, 35, none⟩ (.int .i64 0)).cell? ⟨q0, 37, none⟩ = some (.bool true) := (P1.out.1.cell 5).trans (by show some (Value.bool st.retry) = _; rw [← HRE.out.1]); clear hc ho)
        | (go_at_call 49; refine (fail_c q g _ _ _ P1.out.2.1).mono ?_; rintro e w5 ⟨rfl, hc5, ho5⟩))
      go_end0
      exact SeR.of (w := w) ({ st with grp := 0 }, s1, _) _ ((P1.out.1.only ho5 (fun k hk => by subst hk; exact ⟨hSq, hqq⟩)).mono (fun _ _ h => .inl h)) hc5 (P1.out.2.2.then (ho5.mono (fun _ _ h => .inl h)))
  · have hab : (a == 0) = false := by simpa using ha
    simp only [if_neg ha]
    clear ha
    cases re
    · go_enter Try.func48, Try.ntmps48
      go_wp2_with (first
        | (go_at_call 46; refine HU.out.mono ?_; rintro e w1 ⟨rfl, hc, ho⟩; have H1 := Lib.hid (And.intro (HA.out.1.only ho (fun k hk => by subst hk; exact ⟨hSq, hqq⟩)) (And.intro hc ho)); have c35 := H1.out.1.cell 3; have f35 := H1.out.1.b.fr 35; have P1 := Lib.hid (And.intro (H1.out.1.put hS0 3 (.int .i64 a) { st with grp := a } z rfl rfl H1.out.1.s1 H1.out.1.s2 H1.out.1.s3) (And.intro (cur_set (o := 35) H1.out.2.1 hqq hgq (.int .i64 a)) (only_set (q0 := q0) H1.out.2.2 35 (.int .i64 a)))); have e35 : (w1.setCell ⟨q0, 35, none⟩ (.int .i64 a)).cell? ⟨q0, 35, none⟩ = some (.int .i64 a) := P1.out.1.cell 3; have e37 : (w1.setCell ⟨q0, 35, none⟩ (.int .i64 a)).cell? ⟨q0, 37, none⟩ = some (.bool false) := (P1.out.1.cell 5).trans (by show some (Value.bool st.retry) = _; rw [← HRE.out.1]); clear hc ho)
        | (go_at_call 45; refine (HV.out _ P1.out.2.1).mono ?_; rintro e w3 ⟨g', p, c, rfl, hg', hO, hc, ho⟩; have hz : w.heap.size ≤ g' := (Nat.le_trans P1.out.2.2.size hg'); have P3 := Lib.hid (And.intro ((P1.out.1.only ho (fun k hk => by subst hk; exact ⟨hSq, hqq⟩)).mono (T := fun k => S k ∨ w.heap.size ≤ k) (fun _ _ h => .inl h)) (And.intro hc (And.intro (P1.out.2.2.then (ho.mono (fun _ _ h => .inl h))) hO))); have c36 := P3.out.1.cell 4; have f36 := P3.out.1.b.fr 36; have P4 := Lib.hid (And.intro (P3.out.1.put (s' := { st with grp := a, key := v.1 }) (z' := { z with p2 := p, n2 := v.1.length, c2 := c }) (by rintro (h | h); exact hS0 h; omega) 4 (.slice p v.1.length c) rfl rfl P3.out.1.s1 (SlS.of_own P3.out.2.2.2 rfl (.inr hz)) P3.out.1.s3) (And.intro (cur_set (o := 36) P3.out.2.1 hqq hgq (.slice p v.1.length c)) (P3.out.2.2.1.setCell ⟨q0, 36, none⟩ (.slice p v.1.length c) (.inl (.inr rfl))))); have g35 : (w3.setCell ⟨q0, 36, none⟩ (.slice p v.1.length c)).cell? ⟨q0, 35, none⟩ = some (.int .i64 a) := P4.out.1.cell 3; clear hc ho hO hg'))
      go_end0
      exact SeR.of (w := w) ({ st with grp := a, key := v.1 }, v.2.1, _) _ P4.out.1 P4.out.2.1 P4.out.2.2
    · go_enter Try.func48, Try.ntmps48
      go_wp2_with (first
        | (go_at_call 46; refine HU.out.mono ?_; rintro e w1 ⟨rfl, hc, ho⟩; have H1 := Lib.hid (And.intro (HA.out.1.only ho (fun k hk => by subst hk; exact ⟨hSq, hqq⟩)) (And.intro hc ho)); have c35 := H1.out.1.cell 3; have f35 := H1.out.1.b.fr 35; have P1 := Lib.hid (And.intro (H1.out.1.put hS0 3 (.int .i64 a) { st with grp := a } z rfl rfl H1.out.1.s1 H1.out.1.s2 H1.out.1.s3) (And.intro (cur_set (o := 35) H1.out.2.1 hqq hgq (.int .i64 a)) (only_set (q0 := q0) H1.out.2.2 35 (.int .i64 a)))); have e35 : (w1.setCell ⟨q0, 35, none⟩ (.int .i64 a)).cell? ⟨q0, 35, none⟩ = some (.int .i64 a) := P1.out.1.cell 3; have e37 : (w1.setCell ⟨q0, 35, none⟩ (.int .i64 a)).cell? ⟨q0, 37, none⟩ = some (.bool true) := (P1.out.1.cell 5).trans (by show some (Value.bool st.retry) = _; rw [← HRE.out.1]); clear hc ho))
      go_end0
      exact SeR.of (w := w) ({ st with grp := a }, s1, _) _ (P1.out.1.mono (fun _ _ h => .inl h)) P1.out.2.1 P1.out.2.2

theorem server_ext (q0 : Nat) : Ext 48 q0 (SvAt q0) srvF where
  known := knownSE
  only := fun w w' S X st h ho hX => by obtain ⟨z, h⟩ := h; exact ⟨z, h.only ho hX⟩
  mono := fun w S T st h hT => by obtain ⟨z, h⟩ := h; exact ⟨z, h.mono hT⟩
  lt := fun w S st h => by obtain ⟨z, h⟩ := h; exact h.b.lt
  run := fun w S st q g kind s last h hSq hS0 hqq hgq hC hl _ _ => by
    obtain ⟨z, h⟩ := h
    by_cases h1 : kind = 43
    · subst h1; exact se43 q0 w S st z q g s last h hSq hS0 hqq hgq hC hl
    by_cases h2 : kind = 51
    · subst h2; exact se51 q0 w S st z q g s last h hSq hS0 hqq hgq hC hl
    by_cases h3 : kind = 44
    · subst h3; exact se44 q0 w S st z q g s last h hSq hS0 hqq hgq hC hl
    by_cases h4 : kind = 41
    · subst h4; exact se41 q0 w S st z q g s last h hSq hS0 hqq hgq hC hl
    exact seOther q0 w S st z q g s last h hSq hS0 hqq hgq hC hl kind h1 h2 h3 h4
end Go.Proofs.Ytegmimnhkohaoaa
