/-
  The Reader beside a State that is being filled: what each call, each store and each copy makes of both. Conditions: those of each theorem.
-/
import Derived.Test.YtolgaapiedbkfaaGreatZg2
namespace Go.Kx
open Go.RowKit
/-- A builtin copy as one step of a region that draws its order. -/
theorem step_copy {P : Program} {ops : Array Oper} {w : World} {o : Oper} {a : Act} {K : Act → World → Prop} {Q : Exit → Act → World → Prop} {E : Prop} (hgd : o.guard = none) (s x : Operand) (t u : TypeId)
    (ho : o.op = .call { callee := .builtin .copy, args := #[s, x], argTypes := #[t, u] }) (v y : Value) (hs : a.eval s = v) (hx : a.eval x = y) {v' : Value} {w' : World}
    (hr : (Builtin.copy_ #[t, u] o.type #[v, y]).run P w = .ok v' w') (h : K (a.put o.dst v') w') :
    if Region.wanted o (yielded ops a.tmps) = true then Oper.wp P o a w K Q else E := by
  have hw : Region.wanted o (yielded ops a.tmps) = true := by simp [Region.wanted, hgd]
  rw [if_pos hw]
  unfold Oper.wp execOp
  simp only [ho, resolve, invoke, builtin, Sem.run_bind, Sem.run_pure, Result.andThen_ok, List.map_toArray, List.map_cons, List.map_nil, hs, hx, hr]
  exact h
end Go.Kx
namespace Go.Proofs.YtolgaapiedbkfaaGreat
open Go.RowKit Go.Kx
set_option linter.unusedVariables false
set_option linter.unusedSimpArgs false

/-- Each of its cells is one. -/
theorem StC.one {C : Array Value} {ph : Int} {lg : Value} {sm : List UInt8} {a b c d : Int} {sl : Bool} {pt us : Value} {al : Int} (h : StC C ph lg sm a b c d sl pt us al) (h1 : lg.oneCell' = true) (h2 : pt.oneCell' = true) (h3 : us.oneCell' = true) : C.all (·.oneCell') = true := by
  rw [Array.all_eq_true_iff_forall_mem]
  intro v hv
  obtain ⟨i, hi, rfl⟩ := Array.mem_iff_getElem.1 hv
  have hi2 : i < 234 := by rw [← h.size]; exact hi
  have hg : C[i]? = some C[i] := Array.getElem?_eq_getElem hi
  have hl := h.len
  have key : ∀ u : Value, C[i]? = some u → u.oneCell' = true → C[i].oneCell' = true := by
    intro u hu h1
    rw [hg] at hu
    cases hu
    exact h1
  have hc : i = 0 ∨ i = 1 ∨ (2 ≤ i ∧ i < 226) ∨ i = 226 ∨ i = 227 ∨ i = 228 ∨ i = 229 ∨ i = 230 ∨ i = 231 ∨ i = 232 ∨ i = 233 := by omega
  rcases hc with e | e | e | e | e | e | e | e | e | e | e
  · exact key _ (e ▸ h.e0) rfl
  · exact key _ (e ▸ h.e1) h1
  · have := h.es (i - 2) (by omega)
    rw [show 2 + (i - 2) = i by omega] at this
    exact key _ this rfl
  · exact key _ (e ▸ h.e226) rfl
  · exact key _ (e ▸ h.e227) rfl
  · exact key _ (e ▸ h.e228) rfl
  · exact key _ (e ▸ h.e229) rfl
  · exact key _ (e ▸ h.e230) rfl
  · exact key _ (e ▸ h.e231) h2
  · exact key _ (e ▸ h.e232) h3
  · exact key _ (e ▸ h.e233) rfl

/-- A slice that has the bytes l, in a block of its own apart from three. -/
def Sn (r R2 R6 : Nat) (w : World) (v : Value) (l : List UInt8) : Prop := ∃ p n c, v = .slice p n c ∧ l.length = n ∧ Rd w (fun k => k ≠ r ∧ k ≠ R2 ∧ k ≠ R6) p l ∧ (p = none → c = 0) ∧ n ≤ c ∧ c ≤ maxLen
theorem Sn.only {r R2 R6 : Nat} {w w' : World} {v : Value} {l : List UInt8} {q : Nat → Prop} (h : Sn r R2 R6 w v l) (ho : Only q w w') (hq : ∀ k, q k → k = r ∨ k = R2 ∨ k = R6) : Sn r R2 R6 w' v l := by
  obtain ⟨p, n, c, h1, h2, h3, h4⟩ := h
  exact ⟨p, n, c, h1, h2, h3.only ho (fun k hk hk' => by rcases hq k hk' with h | h | h; exact hk.1 h; exact hk.2.1 h; exact hk.2.2 h), h4⟩
theorem Sn.nil (r R2 R6 : Nat) (w : World) : Sn r R2 R6 w (.slice none 0 0) [] := ⟨none, 0, 0, rfl, rfl, Rd.nil _ _ _, fun _ => rfl, Nat.le_refl _, Nat.zero_le _⟩
theorem Sn.sl {r R2 R6 : Nat} {w : World} {v : Value} {l : List UInt8} (h : Sn r R2 R6 w v l) : Sl w v l := by
  obtain ⟨p, n, c, h1, h2, h3, h4⟩ := h
  exact ⟨p, n, c, h1, h2, h3.mono (fun _ _ _ => trivial), h4⟩

/-- The Reader in r (its bytes in g), no State's cells in R2, the State s in R6. -/
structure Gx (w0 : World) (r g R2 R6 : Nat) (x : RS) (s : St) (lg pt us : Value) (wx : World) : Prop where
  cur : Cur wx r g x.1 x.2
  small : x.1.length ≤ 140737488355328
  z2 : wx.heap[R2]? = some (.cells zC 71 (0, 0))
  st : StB wx R6 71 s.ph lg s.sm s.a s.b s.c s.d s.sl pt us s.al
  s1 : Sn r R2 R6 wx lg s.lg
  s2 : Sn r R2 R6 wx pt s.pt
  s3 : Sn r R2 R6 wx us s.us
  bel : Below w0.heap.size w0 wx
  geo : w0.heap.size ≤ r ∧ w0.heap.size ≤ R2 ∧ w0.heap.size ≤ R6 ∧ r ≠ R2 ∧ r ≠ R6 ∧ R2 ≠ R6 ∧ g ≠ R2 ∧ g ≠ R6
variable {w0 wx w' : World} {r g R2 R6 : Nat} {x y : RS} {s : St} {lg pt us : Value}

theorem Gx.step (h : Gx w0 r g R2 R6 x s lg pt us wx) (hc : Cur w' r g y.1 y.2) (hs : y.1.length ≤ x.1.length) (ho : Only (· = r) wx w') : Gx w0 r g R2 R6 y s lg pt us w' := by
  have hg := h.geo
  exact ⟨hc, Nat.le_trans hs h.small, (ho.block R2 (Array.getElem?_eq_some_iff.1 h.z2).1 (by show ¬ R2 = r; omega)).trans h.z2, h.st.only ho (by show ¬ R6 = r; omega), h.s1.only ho (fun k hk => .inl hk), h.s2.only ho (fun k hk => .inl hk), h.s3.only ho (fun k hk => .inl hk), below_only h.bel h.bel.size ho (by intro k hk e; omega), h.geo⟩
theorem Gx.keep (h : Gx w0 r g R2 R6 x s lg pt us wx) (ho : Only (fun _ => False) wx w') : Gx w0 r g R2 R6 x s lg pt us w' :=
  h.step (h.cur.only ho (fun h => h) (fun h => h)) (Nat.le_refl _) (ho.mono (fun _ _ h => h.elim))

/-- What the calls leave. -/
def GUR (w0 : World) (r g R2 R6 : Nat) (x : RS) (s : St) (lg pt us : Value) (W : Int) (e : Ending) (w' : World) : Prop :=
  ∃ (n : Nat) (y : RS), e = .returned (.int .i64 (n : Int)) ∧ (n = uN x W ∧ y = uS x W) ∧ n < 4294967296 ∧ Gx w0 r g R2 R6 y s lg pt us w'
def GVR (w0 : World) (r g R2 R6 : Nat) (x : RS) (s : St) (lg pt us : Value) (W l m : Int) (e : Ending) (w' : World) : Prop :=
  ∃ (p : Option Addr) (n c : Nat) (v : List UInt8) (y : RS), e = .returned (.slice p n c) ∧ (v = vN x W l m ∧ y = vS x W l m) ∧ Sn r R2 R6 w' (.slice p n c) v ∧ Gx w0 r g R2 R6 y s lg pt us w'
def GBR (wx w0 : World) (r g R2 R6 : Nat) (x : RS) (s : St) (lg pt us : Value) (n : Int) (e : Ending) (w' : World) : Prop :=
  ∃ (p : Option Addr) (m c : Nat) (v : List UInt8) (y : RS), e = .returned (.slice p m c) ∧ (v = bN x n ∧ y = bS x n) ∧ Sn r R2 R6 w' (.slice p m c) v ∧ Gx w0 r g R2 R6 y s lg pt us w' ∧ Only (· = r) wx w'

theorem gU (h : Gx w0 r g R2 R6 x s lg pt us wx) (W : Int) (hW : 1 ≤ W ∧ W ≤ 4) : Calls Tryz.prog 75 #[rp r, .int .i64 W] wx (GUR w0 r g R2 R6 x s lg pt us W) := by
  refine (uint_c r g x.1 x.2 W wx h.cur).mono ?_
  rintro e w' ⟨rfl, hc, ho⟩
  refine ⟨_, uS x W, rfl, ⟨rfl, rfl⟩, ?_, h.step hc (leftS_le _ _ _) ho⟩
  exact beN_small _ (out_four _ _ _)
theorem vS_le (x : RS) (W l m : Int) : (vS x W l m).1.length ≤ x.1.length := by
  unfold vS vecS
  simp only
  split
  · exact Nat.le_trans (leftS_le _ _ _) (leftS_le _ _ _)
  · exact Nat.le_trans (leftS_le _ _ _) (leftS_le _ _ _)
theorem told_sn (h : Gx w0 r g R2 R6 x s lg pt us wx) {g' n : Nat} {p : Option Addr} {c : Nat} {v : List UInt8} (hg : wx.heap.size ≤ g') (hO : Own w' g' (.slice p n c) v) (hn : v.length = n) : Sn r R2 R6 w' (.slice p n c) v := by
  obtain ⟨p', c', he, h1, h2, h3, h4, h5⟩ := hO.form
  rw [hn] at he h1
  cases he
  have h6 := h.cur.lt
  have h7 := (Array.getElem?_eq_some_iff.1 h.z2).1
  have h8 := h.st.lt
  refine ⟨p, n, c, rfl, hn, h3.mono ?_, h4, h1, h2⟩
  rintro k _ rfl
  exact ⟨by omega, by omega, by omega⟩
theorem gV (h : Gx w0 r g R2 R6 x s lg pt us wx) (W l m : Int) : Calls Tryz.prog 119 #[rp r, .int .i64 W, .int .i64 l, .int .i64 m] wx (GVR w0 r g R2 R6 x s lg pt us W l m) := by
  refine (vector_c r g x.1 x.2 W l m wx h.cur h.small).mono ?_
  rintro e w' ⟨g', p, c, rfl, h1, h2, hc, ho⟩
  exact ⟨p, _, c, _, vS x W l m, rfl, ⟨rfl, rfl⟩, told_sn h h1 h2 rfl, h.step hc (vS_le _ _ _ _) ho⟩
theorem gB (h : Gx w0 r g R2 R6 x s lg pt us wx) (n : Int) : Calls Tryz.prog 76 #[rp r, .int .i64 n] wx (GBR wx w0 r g R2 R6 x s lg pt us n) := by
  refine (bytes_c r g x.1 x.2 n wx h.cur h.small).mono ?_
  rintro e w' ⟨g', p, c, rfl, h1, h2, hc, ho⟩
  exact ⟨p, _, c, _, bS x n, rfl, ⟨rfl, rfl⟩, told_sn h h1 h2 rfl, h.step hc (leftS_le _ _ _) ho, ho⟩
theorem bN_le (x : RS) (n : Nat) : (bN x (n : Int)).length ≤ n := by unfold bN outS; split <;> simp; omega
theorem smS_length (x : RS) : ∀ i, (smS i x).1.length = 32 * i
  | 0 => rfl
  | i + 1 => by
    have ih := smS_length x i
    have h := bN_le (smS i x).2 32
    simp only [smS, List.length_append, List.length_replicate, ih]
    simp only [Int.cast_ofNat_Int] at h
    omega
theorem smS_step (x : RS) (i : Nat) (hi : i < 7) (o : List UInt8) (ho : o = bN (smS i x).2 32) :
    ((smS i x).1 ++ List.replicate (224 - 32 * i) 0).take (32 * i) ++ o ++ ((smS i x).1 ++ List.replicate (224 - 32 * i) 0).drop (32 * i + o.length) = (smS (i + 1) x).1 ++ List.replicate (224 - 32 * (i + 1)) 0 := by
  have hl := smS_length x i
  have h := bN_le (smS i x).2 32
  simp only [Int.cast_ofNat_Int] at h
  rw [← ho] at h
  rw [List.take_left' hl, show 32 * i + o.length = (smS i x).1.length + o.length by rw [hl], List.drop_length_add_append, List.drop_replicate]
  simp only [smS]
  rw [← ho, List.append_assoc, List.append_assoc, List.append_assoc, List.replicate_append_replicate]
  congr 4
  omega
def GFR (w0 : World) (r g R2 R6 : Nat) (x : RS) (s : St) (lg pt us : Value) (e : Ending) (w' : World) : Prop := e = .returned ret0 ∧ Gx w0 r g R2 R6 (fS x) s lg pt us w'
theorem gF (h : Gx w0 r g R2 R6 x s lg pt us wx) : Calls Tryz.prog 154 #[rp r] wx (GFR w0 r g R2 R6 x s lg pt us) := by
  refine (fail_c r g x.1 x.2 wx h.cur).mono ?_
  rintro e w' ⟨rfl, hc, ho⟩
  exact ⟨rfl, h.step (y := fS x) hc (Nat.le_refl _) ho⟩

/-! ### Stores -/
theorem Gx.put {s' : St} {lg' pt' us' : Value} (h : Gx w0 r g R2 R6 x s lg pt us wx) (p : Addr) (u : Value) (hp : p.block = R6) (hst : StB (wx.setCell p u) R6 71 s'.ph lg' s'.sm s'.a s'.b s'.c s'.d s'.sl pt' us' s'.al)
    (h1 : Sn r R2 R6 wx lg' s'.lg) (h2 : Sn r R2 R6 wx pt' s'.pt) (h3 : Sn r R2 R6 wx us' s'.us) : Gx w0 r g R2 R6 x s' lg' pt' us' (wx.setCell p u) := by
  have ho : Only (· = R6) wx (wx.setCell p u) := (Only.refl (fun k => k = R6) wx).setCell p u (.inl hp)
  have hg := h.geo
  exact ⟨h.cur.only ho (by show ¬ r = R6; omega) (by show ¬ g = R6; omega), h.small, (ho.block R2 (Array.getElem?_eq_some_iff.1 h.z2).1 (by show ¬ R2 = R6; omega)).trans h.z2, hst, h1.only ho (fun k hk => .inr (.inr hk)), h2.only ho (fun k hk => .inr (.inr hk)), h3.only ho (fun k hk => .inr (.inr hk)), below_only h.bel h.bel.size ho (by intro k hk e; omega), h.geo⟩
theorem Sn.set {v : Value} {l : List UInt8} (h : Sn r R2 R6 wx v l) (p : Addr) (u : Value) (hp : p.block = R6) : Sn r R2 R6 (wx.setCell p u) v l :=
  h.only ((Only.refl (fun k => k = R6) wx).setCell p u (.inl hp)) (fun k hk => .inr (.inr hk))
theorem Gx.w_ph (h : Gx w0 r g R2 R6 x s lg pt us wx) (n : Int) : Gx w0 r g R2 R6 x { s with ph := n } lg pt us (wx.setCell ⟨R6, 0, none⟩ (.int .i64 n)) := h.put _ _ rfl (h.st.set0 n) h.s1 h.s2 h.s3
theorem Gx.w_lg {v : Value} {l : List UInt8} (h : Gx w0 r g R2 R6 x s lg pt us wx) (hv : Sn r R2 R6 wx v l) : Gx w0 r g R2 R6 x { s with lg := l } v pt us (wx.setCell ⟨R6, 1, none⟩ v) := h.put _ _ rfl (h.st.set1 v) hv h.s2 h.s3
theorem Gx.w_a (h : Gx w0 r g R2 R6 x s lg pt us wx) (n : Int) : Gx w0 r g R2 R6 x { s with a := n } lg pt us (wx.setCell ⟨R6, 226, none⟩ (.int .i64 n)) := h.put _ _ rfl (h.st.set226 n) h.s1 h.s2 h.s3
theorem Gx.w_b (h : Gx w0 r g R2 R6 x s lg pt us wx) (n : Int) : Gx w0 r g R2 R6 x { s with b := n } lg pt us (wx.setCell ⟨R6, 227, none⟩ (.int .i64 n)) := h.put _ _ rfl (h.st.set227 n) h.s1 h.s2 h.s3
theorem Gx.w_c (h : Gx w0 r g R2 R6 x s lg pt us wx) (n : Int) : Gx w0 r g R2 R6 x { s with c := n } lg pt us (wx.setCell ⟨R6, 228, none⟩ (.int .i64 n)) := h.put _ _ rfl (h.st.set228 n) h.s1 h.s2 h.s3
theorem Gx.w_d (h : Gx w0 r g R2 R6 x s lg pt us wx) (n : Int) : Gx w0 r g R2 R6 x { s with d := n } lg pt us (wx.setCell ⟨R6, 229, none⟩ (.int .i64 n)) := h.put _ _ rfl (h.st.set229 n) h.s1 h.s2 h.s3
theorem Gx.w_sl (h : Gx w0 r g R2 R6 x s lg pt us wx) (n : Bool) : Gx w0 r g R2 R6 x { s with sl := n } lg pt us (wx.setCell ⟨R6, 230, none⟩ (.bool n)) := h.put _ _ rfl (h.st.set230 n) h.s1 h.s2 h.s3
theorem Gx.w_pt {v : Value} {l : List UInt8} (h : Gx w0 r g R2 R6 x s lg pt us wx) (hv : Sn r R2 R6 wx v l) : Gx w0 r g R2 R6 x { s with pt := l } lg v us (wx.setCell ⟨R6, 231, none⟩ v) := h.put _ _ rfl (h.st.set231 v) h.s1 hv h.s3
theorem Gx.w_us {v : Value} {l : List UInt8} (h : Gx w0 r g R2 R6 x s lg pt us wx) (hv : Sn r R2 R6 wx v l) : Gx w0 r g R2 R6 x { s with us := l } lg pt v (wx.setCell ⟨R6, 232, none⟩ v) := h.put _ _ rfl (h.st.set232 v) h.s1 h.s2 hv
theorem Gx.w_al (h : Gx w0 r g R2 R6 x s lg pt us wx) (n : Int) : Gx w0 r g R2 R6 x { s with al := n } lg pt us (wx.setCell ⟨R6, 233, none⟩ (.int .i64 n)) := h.put _ _ rfl (h.st.set233 n) h.s1 h.s2 h.s3

/-! ### The copy of a sum -/
theorem only_setCells {q : Nat → Prop} (b : Nat) (hq : q b) : ∀ (vs : List Value) (o : Nat) (w : World), Only q w (w.setCells b o vs)
  | [], _, w => Only.refl _ _
  | v :: vs, o, w => by
    rw [World.setCells]
    exact ((Only.refl q w).setCell ⟨b, o, none⟩ v (.inl hq)).then (only_setCells b hq vs (o + 1) _)
theorem Gx.copy (h : Gx w0 r g R2 R6 x s lg pt us wx) (i : Nat) (hi : i < 7) (l : List UInt8) (hl : l.length ≤ 32) :
    Gx w0 r g R2 R6 x { s with sm := s.sm.take (32 * i) ++ l ++ s.sm.drop (32 * i + l.length) } lg pt us (wx.setCells R6 (2 + 32 * i) (l.map B8)) := by
  have ho : Only (· = R6) wx (wx.setCells R6 (2 + 32 * i) (l.map B8)) := only_setCells (q := fun k => k = R6) R6 rfl _ _ _
  have hg := h.geo
  exact ⟨h.cur.only ho (by show ¬ r = R6; omega) (by show ¬ g = R6; omega), h.small, (ho.block R2 (Array.getElem?_eq_some_iff.1 h.z2).1 (by show ¬ R2 = R6; omega)).trans h.z2, h.st.copy i hi l hl, h.s1.only ho (fun k hk => .inr (.inr hk)), h.s2.only ho (fun k hk => .inr (.inr hk)), h.s3.only ho (fun k hk => .inr (.inr hk)), below_only h.bel h.bel.size ho (by intro k hk e; omega), h.geo⟩
theorem StB.len {w : World} {r t : Nat} {ph : Int} {lg : Value} {sm : List UInt8} {a b c d : Int} {sl : Bool} {pt us : Value} {al : Int} (h : StB w r t ph lg sm a b c d sl pt us al) : sm.length = 224 := by obtain ⟨C, _, h⟩ := h; exact h.len
theorem run_copy_sum (h : Gx w0 r g R2 R6 x s lg pt us wx) (i : Nat) (hi : i < 7) {p : Option Addr} {n c : Nat} {l : List UInt8} (hs : Sn r R2 R6 wx (.slice p n c) l) (hl : l.length ≤ 32) (ty : TypeId) :
    (Builtin.copy_ #[38, 38] ty #[.slice (some ⟨R6, 2 + 32 * i, none⟩) 32 32, .slice p n c]).run Tryz.prog wx = .ok (goInt (n : Nat)) (wx.setCells R6 (2 + 32 * i) (l.map B8)) := by
  obtain ⟨p', n', c', he, hn, hR, hp, _, _⟩ := hs
  cases he
  subst hn
  have hsz : (Tryz.prog.info? 5).map (·.size) = some 1 := by kernel_rfl
  cases l with
  | nil => exact run_copy_none wx _ _ ty 5 _ _ _ _ _ _ Tryz.underlying38 hsz (by simp)
  | cons b t =>
    obtain ⟨a, o, rfl, _, _, _⟩ := hR.at (by simp)
    have := run_copy_cells (P := Tryz.prog) wx 38 38 ty 5 R6 (2 + 32 * i) 32 32 ⟨a, o, none⟩ (b :: t).length c ((b :: t).map B8) Tryz.underlying38 hsz (by rw [List.length_map]; exact (Nat.min_eq_left hl).symm)
      (by
        intro j u hu
        simp only [List.getElem?_map, Option.map_eq_some_iff] at hu
        obtain ⟨b', hb, rfl⟩ := hu
        obtain ⟨hj, rfl⟩ := List.getElem?_eq_some_iff.1 hb
        obtain ⟨a', ha', _, hc'⟩ := hR j hj
        cases ha'
        exact hc')
      (by
        intro j hj
        rw [List.length_map] at hj
        obtain ⟨C, hC, hS⟩ := h.st
        have hlen := hS.len
        rw [StB.cellC hC, show 2 + 32 * i + j = 2 + (32 * i + j) by omega, hS.es (32 * i + j) (by omega)]
        rfl)
      (fun j _ => h.st.fr _) (oneCell_map _)
    rw [List.length_map] at this
    exact this
end Go.Proofs.YtolgaapiedbkfaaGreat
