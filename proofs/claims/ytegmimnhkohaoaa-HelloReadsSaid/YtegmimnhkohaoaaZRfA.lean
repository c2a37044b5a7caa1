/-
  The contracts of relayref07's Reader: Bytes, Left, Done. Conditions: at most 2 to the 47th bytes.
-/
import Derived.Test.YtegmimnhkohaoaaZg5
namespace Go.Kx
open Go.RowKit
/-- A struct of three cells in a block of its own. -/
def Box3 (w : World) (r t : Nat) (x y z : Value) : Prop := w.heap[r]? = some (.cells #[x, y, z] t (0, 0))
theorem Box3.c0 {w : World} {r t : Nat} {x y z : Value} (h : Box3 w r t x y z) : w.cell? ⟨r, 0, none⟩ = some x := by unfold Box3 at h; simp [World.cell?, h]
theorem Box3.c1 {w : World} {r t : Nat} {x y z : Value} (h : Box3 w r t x y z) : w.cell? ⟨r, 1, none⟩ = some y := by unfold Box3 at h; simp [World.cell?, h]
theorem Box3.c2 {w : World} {r t : Nat} {x y z : Value} (h : Box3 w r t x y z) : w.cell? ⟨r, 2, none⟩ = some z := by unfold Box3 at h; simp [World.cell?, h]
theorem Box3.fr {w : World} {r t : Nat} {x y z : Value} (h : Box3 w r t x y z) (o : Nat) : w.frozen? ⟨r, o, none⟩ = false := by unfold Box3 at h; simp [World.frozen?, h]
theorem Box3.lt {w : World} {r t : Nat} {x y z : Value} (h : Box3 w r t x y z) : r < w.heap.size := (Array.getElem?_eq_some_iff.1 h).1
theorem Box3.set1 {w : World} {r t : Nat} {x y z : Value} (h : Box3 w r t x y z) (u : Value) : Box3 (w.setCell ⟨r, 1, none⟩ u) r t x u z := by
  unfold Box3 at *; simp [World.setCell, Array.getElem?_modify, h]
theorem Box3.set2 {w : World} {r t : Nat} {x y z : Value} (h : Box3 w r t x y z) (u : Value) : Box3 (w.setCell ⟨r, 2, none⟩ u) r t x y u := by
  unfold Box3 at *; simp [World.setCell, Array.getElem?_modify, h]
theorem Box3.only {w w' : World} {q : Nat → Prop} {r t : Nat} {x y z : Value} (h : Box3 w r t x y z) (ho : Only q w w') (hd : ¬ q r) : Box3 w' r t x y z := (ho.block r h.lt hd).trans h
theorem Box3.new (w : World) (t : Nat) (x y z : Value) : Box3 (w.alloc (.cells #[x, y, z] t)) w.heap.size t x y z := heap_alloc_new w _
theorem Rd.news {w : World} {S : Nat → Prop} {a : Addr} {l : List UInt8} (h : Rd w S (some a) l) : ∀ j u, (l.map B8)[j]? = some u → w.cell? (a.add j) = some u := by
  intro j u hu
  simp only [List.getElem?_map, Option.map_eq_some_iff] at hu
  obtain ⟨b, hb, rfl⟩ := hu
  obtain ⟨hj, rfl⟩ := List.getElem?_eq_some_iff.1 hb
  obtain ⟨a', ha', _, hc'⟩ := h j hj
  cases ha'
  exact hc'
end Go.Kx
namespace Go.Proofs.Ytegmimnhkohaoaa
open Go.RowKit Go.Kx

/-- append of nothing that is nil. -/
theorem step_append_none {P : Program} {ops : Array Oper} {w : World} {o : Oper} {a : Act} {K : Act → World → Prop} {Q : Exit → Act → World → Prop} {E : Prop} (hgd : o.guard = none) (s x : Operand) (t : TypeId)
    (ho : o.op = .call { callee := .builtin .append, args := #[s, x], argTypes := #[t, t] }) (e : TypeId) (z : Value) (size bytes : Nat) (ht : P.underlying t = some (.slice e))
    (hinfo : (P.info? e).map (fun i => (i.zero, i.size, i.bytes)) = some (some z, size, bytes))
    (g : Nat) (v : Value) (n : Nat) (xs : List Value) (hs : a.eval s = v) (hown : Row w e size g v n xs) (hx : a.eval x = .slice none 0 0)
    (h : K (a.put o.dst v) w) :
    if Region.wanted o (yielded ops a.tmps) = true then Oper.wp P o a w K Q else E := by
  have hw : Region.wanted o (yielded ops a.tmps) = true := by simp [Region.wanted, hgd]
  rw [if_pos hw]
  obtain ⟨i, hi, hz, hz1, hz2⟩ := info_parts hinfo
  have hrun := run_append_owned_none (P := P) (w := w) 0 t o.type e i size ht hi v n xs hown.1
  unfold Oper.wp
  simp [execOp, ho, resolve, invoke, builtin, hs, hx, hrun, Result.andThen]
  exact h
/-- The document's Reader in block r: all its bytes are L (in block g), s of them are left, and the error is bad. -/
structure Rf (w : World) (r g : Nat) (L s : List UInt8) (bad : Int) : Prop where
  ne : r ≠ g
  lt : g < w.heap.size
  ex : ∃ p n c at_, L.length = n ∧ at_ ≤ n ∧ L.drop at_ = s ∧ Box3 w r 109 (.slice p n c) (.int .i64 ((at_ : Nat) : Int)) (.int .i64 bad) ∧ Rd w (· = g) p L ∧ n ≤ c ∧ c ≤ maxLen ∧ (p = none → c = 0) ∧ ∀ x, p = some x → x.spot = none ∧ x.block = g
theorem Rf.rlt {w : World} {r g : Nat} {L s : List UInt8} {bad : Int} (h : Rf w r g L s bad) : r < w.heap.size := by
  obtain ⟨_, _, _, _, _, _, _, hb, _⟩ := h.ex
  exact hb.lt
theorem Rf.only {w w' : World} {q : Nat → Prop} {r g : Nat} {L s : List UInt8} {bad : Int} (h : Rf w r g L s bad) (ho : Only q w w') (h1 : ¬ q r) (h2 : ¬ q g) : Rf w' r g L s bad := by
  obtain ⟨hne, hlt, p, n, c, a, e1, e2, e3, hb, hR, e4, e5, e6, e7⟩ := h
  exact ⟨hne, Nat.lt_of_lt_of_le hlt ho.size, p, n, c, a, e1, e2, e3, hb.only ho h1, hR.only ho (fun k hk => hk ▸ h2), e4, e5, e6, e7⟩

def RToldR (w : World) (r g : Nat) (L out left : List UInt8) (bad : Int) (e : Ending) (w' : World) : Prop :=
  ∃ g' p c, e = .returned (.slice p out.length c) ∧ w.heap.size ≤ g' ∧ Own w' g' (.slice p out.length c) out ∧ Rf w' r g L left bad ∧ Only (· = r) w w'

theorem rtold_no {w w' : World} {r g : Nat} {L s : List UInt8} {bad n b : Int} (hb : badS s bad n = b) (h : b ≠ 0) (hc : Rf w' r g L s b) (ho : Only (· = r) w w') : RToldR w r g L (outS s bad n) (leftS s bad n) (badS s bad n) (.returned (.slice none 0 0)) w' := by
  have h' : badS s bad n ≠ 0 := by rw [hb]; exact h
  have h1 : outS s bad n = [] := by unfold outS; rw [if_neg h']
  have h2 : leftS s bad n = s := by unfold leftS; rw [if_neg h']
  rw [h1, h2, hb]
  exact ⟨w'.heap.size, none, 0, rfl, ho.size, Own.nil _ _, hc, ho⟩

theorem Rf.fail {w : World} {r g : Nat} {L s : List UInt8} {bad : Int} (h : Rf w r g L s bad) (e : Int) : Rf (w.setCell ⟨r, 2, none⟩ (.int .i64 e)) r g L s e := by
  obtain ⟨hne, hlt, p, n, c, a, e1, e2, e3, hb, hR, e4, e5, e6, e7⟩ := h
  have ho : Only (· = r) w (w.setCell ⟨r, 2, none⟩ (.int .i64 e)) := (Only.refl (fun k => k = r) w).setCell ⟨r, 2, none⟩ _ (.inl rfl)
  exact ⟨hne, Nat.lt_of_lt_of_le hlt ho.size, p, n, c, a, e1, e2, e3, hb.set2 _, hR.only ho (fun k hk => by omega), e4, e5, e6, e7⟩

theorem rbytes_no (r g : Nat) (L s : List UInt8) (bad n : Int) (w : World) (hr : Rf w r g L s bad) (h : badS s bad n ≠ 0) :
    Calls Try.prog 59 #[rp r, .int .i64 n] w (RToldR w r g L (outS s bad n) (leftS s bad n) (badS s bad n)) := by
  obtain ⟨hne, hlt, p, m, c, a, e1, e2, e3, hb, hR, e4, e5, e6, e7⟩ := id hr
  have hsl : (s.length : Int) = (m : Int) - (a : Int) := by rw [← e3, List.length_drop]; omega
  have c0 := hb.c0
  have c1 := hb.c1
  have c2 := hb.c2
  have f2 := hb.fr 2
  unfold maxLen at e5
  by_cases hbad : bad = 0
  · subst hbad
    by_cases hn : n < 0
    · have d2 := (hb.set2 (.int .i64 3)).c2
      have d0 := (hb.set2 (.int .i64 3)).c0
      have d1 := (hb.set2 (.int .i64 3)).c1
      have HR := Lib.hid hr
      clear hr hR
      go_enter Try.func59, Try.ntmps59
      go_wp2
      go_quiet (fail)
      go_wp2
      go_ret
      exact rtold_no (b := 3) (by unfold badS rm; rw [if_pos hn, if_pos rfl]) (by decide) ((HR.out.fail 3).only (Only.drewN _ (Only.refl (fun _ => False) _)) (fun h => h) (fun h => h)) (((Only.refl (fun k => k = r) w).setCell ⟨r, 2, none⟩ _ (.inl rfl)).drewN _)
    · have hlong : (s.length : Int) < n := by
        unfold badS at h
        rw [if_neg hn] at h
        split at h
        · assumption
        · exact absurd rfl h
      rw [hsl] at hlong
      have i1 : IntKind.i64.wrap ((m : Int) - (a : Int)) = (m : Int) - (a : Int) := IntWalk.i64_in _ ⟨by omega, by omega⟩
      have d2 := (hb.set2 (.int .i64 2)).c2
      have HR := Lib.hid hr
      clear hr hR
      go_enter Try.func59, Try.ntmps59
      go_wp2
      go_quiet (fail)
      have d2' := (Box3.set2 (w := w.drewN nq) (r := r) hb (.int .i64 2)).c2
      go_wp2
      go_ret
      have hr2 : Rf (w.drewN nq) r g L s 0 := HR.out.only (Only.drewN _ (Only.refl (fun _ => False) _)) (fun h => h) (fun h => h)
      exact rtold_no (b := 2) (by unfold badS rm; rw [if_neg (by omega), if_pos (by rw [hsl]; exact hlong), if_pos rfl]) (by decide) (hr2.fail 2) ((Only.drewN _ (Only.refl (fun k => k = r) w)).setCell ⟨r, 2, none⟩ _ (.inl rfl))
  · have hi : (bad == 0) = false := by simpa using hbad
    have hi2 : (bad != 0) = true := by simpa using hbad
    have HR := Lib.hid hr
    clear hr hR
    go_enter Try.func59, Try.ntmps59
    go_wp2
    go_quiet (fail)
    go_wp2
    go_ret
    have hbd : badS s bad n = bad := by unfold badS rm; rw [if_neg hbad, if_neg hbad]; split <;> (try split) <;> rfl
    exact rtold_no hbd hbad (HR.out.only (Only.drewN _ (Only.refl (fun _ => False) _)) (fun h => h) (fun h => h)) (Only.drewN _ (Only.refl _ _))

theorem rtold_yes {w W0 w7 : World} {r g n m c a gB' : Nat} {p2 pL : Option Addr} {c2 : Nat} {L s : List UInt8} (hg' : gB' = W0.heap.size ∨ gB' = W0.heap.size + 1) (hltn : (s.take n).length = n) (ho : Own w7 gB' (.slice p2 n c2) (s.take n)) (han : a + n ≤ m) (e1 : L.length = m) (e3 : L.drop a = s)
    (hne : r ≠ g) (hlt : g < w.heap.size) (hz : Only (· = r) w W0) (hzb : Box3 W0 r 109 (.slice pL m c) (.int .i64 ((a : Int) + (n : Int))) (.int .i64 0)) (hR : Rd W0 (· = g) pL L) (e4 : m ≤ c) (e5 : c ≤ maxLen) (e6 : pL = none → c = 0) (e7 : ∀ x, pL = some x → x.spot = none ∧ x.block = g)
    (hw : r < w.heap.size) (hw0 : w.heap.size ≤ W0.heap.size) (hO7 : Only (fun x => x = W0.heap.size) (W0.alloc (Obj.cells #[] 5)).drew w7) :
    RToldR w r g L (s.take n) (s.drop n) 0 (.returned (.slice p2 n c2)) w7 := by
  have ho7 : Only (fun x => x = W0.heap.size) W0 w7 := (((Only.refl _ W0).alloc _).drew).then hO7
  refine ⟨gB', p2, c2, by rw [hltn], by omega, by rw [hltn]; exact ho, ⟨hne, Nat.lt_of_lt_of_le hlt (Nat.le_trans hw0 ho7.size), pL, m, c, a + n, e1, han, by rw [← e3, List.drop_drop], ?_, ?_, e4, e5, e6, e7⟩, hz.trans ho7 (fun _ h => h) (fun x hx h => by omega)⟩
  · have := hzb.only ho7 (by omega)
    rwa [show ((a + n : Nat) : Int) = (a : Int) + (n : Int) by omega]
  · exact hR.only ho7 (fun k hk => by omega)

set_option maxHeartbeats 4000000 in
theorem rbytes_yes (r g n : Nat) (L s : List UInt8) (w : World) (hr : Rf w r g L s 0) (hl : L.length ≤ 140737488355328) (hns : n ≤ s.length) :
    Calls Try.prog 59 #[rp r, .int .i64 (n : Int)] w (RToldR w r g L (s.take n) (s.drop n) 0) := by
  obtain ⟨hne, hlt, p, m, c, a, e1, e2, e3, hb, hR, e4, e5, e6, e7⟩ := id hr
  cases p with
  | none =>
    have hc0 := e6 rfl
    subst hc0
    have hm0 : m = 0 := by omega
    subst hm0
    have ha0 : a = 0 := by omega
    subst ha0
    have hs0 : s = [] := by rw [← e3, List.length_eq_zero_iff.1 e1]; rfl
    subst hs0
    have hn0 : n = 0 := by simpa using hns
    subst hn0
    have c0 := hb.c0
    have c1 := hb.c1
    have c2 := hb.c2
    have f1 := hb.fr 1
    have HR := Lib.hid hr
    have HRd := Lib.hid hR
    have hb' := hb.set1 (.int .i64 0)
    have b0 := hb'.c0
    have b1 := hb'.c1
    clear hr hR
    go_enter Try.func59, Try.ntmps59
    go_wp2
    go_quiet (fail)
    have d0 := (Box3.set1 (w := w.drewN nq) (r := r) hb (.int .i64 0)).c0
    have d1 := (Box3.set1 (w := w.drewN nq) (r := r) hb (.int .i64 0)).c1
    have hz : Only (· = r) w ((w.drewN nq).setCell ⟨r, 1, none⟩ (.int .i64 0)) := (Only.drewN _ (Only.refl (fun k => k = r) w)).setCell ⟨r, 1, none⟩ _ (.inl rfl)
    have hzb := Box3.set1 (w := w.drewN nq) (r := r) hb (.int .i64 0)
    go_upto_region 8 with (fail)
    clear c0 c1 c2 f1 hb hb' b0 b1
    generalize (w.drewN nq).setCell ⟨r, 1, none⟩ (.int .i64 0) = W0 at *
    have a0 := (hzb.only ((Only.refl (fun _ => False) W0).alloc (.cells #[] 5)) (fun h => h)).c0
    have a1 := (hzb.only ((Only.refl (fun _ => False) W0).alloc (.cells #[] 5)) (fun h => h)).c1
    have HZ := Lib.hid hz
    have HZB := Lib.hid hzb
    clear hz hzb
    have i0 : IntKind.i64.wrap 0 = 0 := by decide
    go_region_law ((refine step_append_none rfl _ _ 23 rfl 5 (.int .u8 0) 1 1 Try.underlying23 Try.info5 W0.heap.size (.slice (some ⟨W0.heap.size, 0, none⟩) 0 0) 0 [] (by simp [Act.eval, Act.put]) (Row.new _ 5 1) (by simp [Act.eval, Act.put]) ?_))
    all_goals
      have hnew : Own ((W0.alloc (.cells #[] 5)).drew) W0.heap.size (.slice (some ⟨W0.heap.size, 0, none⟩) 0 0) [] := (Own.new W0).only (Only.drew (Only.refl (fun _ => False) _)) (fun h => h)
      have HN := Lib.hid hnew
      have HL := Lib.hid (List.length_eq_zero_iff.1 e1)
      clear hnew
      go_wp2
      go_ret
      exact rtold_yes (n := 0) (m := 0) (c := 0) (a := 0) (s := []) (.inl rfl) rfl HN.out (by omega) e1 e3 HR.out.ne HR.out.lt HZ.out HZB.out (by rw [HL.out]; exact Rd.nil _ _ none) (Nat.le_refl _) (by unfold maxLen; omega) (fun _ => rfl) (fun x h => by cases h) HR.out.rlt HZ.out.size (Only.refl _ _)
  | some x =>
    obtain ⟨g', o, sp⟩ := x
    obtain ⟨hsp, hgg⟩ := e7 _ rfl
    simp only at hsp hgg
    subst hsp
    subst hgg
    have hsl : s.length = m - a := by rw [← e3, List.length_drop]; omega
    have c0 := hb.c0
    have c1 := hb.c1
    have c2 := hb.c2
    have f1 := hb.fr 1
    have hb' := hb.set1 (.int .i64 ((a : Int) + (n : Int)))
    have b0 := hb'.c0
    have b1 := hb'.c1
    unfold maxLen at e5
    have i1 : IntKind.i64.wrap ((m : Int) - (a : Int)) = (m : Int) - (a : Int) := IntWalk.i64_in _ ⟨by omega, by omega⟩
    have i2 : ¬ (m : Int) - (a : Int) < (n : Int) := by omega
    have i3 : IntKind.i64.wrap ((a : Int) + (n : Int)) = (a : Int) + (n : Int) := IntWalk.i64_in _ ⟨by omega, by omega⟩
    have HR := Lib.hid hr
    have HRd := Lib.hid hR
    clear hr hR
    go_enter Try.func59, Try.ntmps59
    go_wp2
    go_quiet (fail)
    have d0 := (Box3.set1 (w := w.drewN nq) (r := r) hb (.int .i64 ((a : Int) + (n : Int)))).c0
    have d1 := (Box3.set1 (w := w.drewN nq) (r := r) hb (.int .i64 ((a : Int) + (n : Int)))).c1
    have i4 : IntKind.i64.wrap (a : Int) = (a : Int) := IntWalk.i64_in _ ⟨by omega, by omega⟩
    have hz : Only (· = r) w ((w.drewN nq).setCell ⟨r, 1, none⟩ (.int .i64 ((a : Int) + (n : Int)))) := (Only.drewN _ (Only.refl (fun k => k = r) w)).setCell ⟨r, 1, none⟩ _ (.inl rfl)
    have hzb := Box3.set1 (w := w.drewN nq) (r := r) hb (.int .i64 ((a : Int) + (n : Int)))
    go_upto_region 8 with (fail)
    clear c0 c1 c2 f1 hb hb' b0 b1
    generalize (w.drewN nq).setCell ⟨r, 1, none⟩ (.int .i64 ((a : Int) + (n : Int))) = W0 at *
    have hRd0 := rd_r HRd.out (by intro x hx; cases hx; exact ⟨rfl, rfl, hne⟩) hz
    have hsl2 : L.length - (L.length - n - a) = a + n := by omega
    have hRt : Rd W0 (· = g') (some ⟨g', o + a, none⟩) (s.take n) := by
      have := (Rd.drop a hRd0).take n
      rw [e3] at this
      simpa using this
    have hltn : (s.take n).length = n := by rw [List.length_take]; omega
    have a0 := (hzb.only ((Only.refl (fun _ => False) W0).alloc (.cells #[] 5)) (fun h => h)).c0
    have a1 := (hzb.only ((Only.refl (fun _ => False) W0).alloc (.cells #[] 5)) (fun h => h)).c1
    have HZ := Lib.hid hz
    have HZB := Lib.hid hzb
    have HRt := Lib.hid hRt
    have HRd0 := Lib.hid hRd0
    clear hz hzb hRt hRd0
    have j1 : (0 : Int) ≤ (a : Int) + (n : Int) := by omega
    have j2 : (a : Int) + (n : Int) ≤ (c : Int) := by omega
    have j3 : (0 : Int) ≤ (a : Int) := by omega
    have j4 : (a : Int) ≤ max ((a : Int) + (n : Int)) 0 := by omega
    have j5 : ((a : Int) + (n : Int)).toNat = a + n := by omega
    by_cases hca : c = a
    · have hn0 : n = 0 := by omega
      subst hn0
      go_region_law ((refine step_append_row rfl _ _ 23 rfl 5 (.int .u8 0) 1 1 Try.underlying23 Try.info5 rfl (by decide) W0.heap.size (.slice (some ⟨W0.heap.size, 0, none⟩) 0 0) 0 [] (by simp [Act.eval, Act.put]) (Row.new _ 5 1) ⟨g', o, none⟩ 0 0 [] (by simp [Act.eval, Act.put]) rfl (by simp) (by simp) (by simp [maxLen]) (by simp) (W0.heap.size + 1) (by simp) ?_; intro gB' v7' w7 hrow hg' hO7))
      all_goals
        have hown : Own w7 gB' v7' (s.take 0) := by
          unfold Own
          rw [hltn]
          simpa using hrow
        clear hrow
        obtain ⟨p2, c2, rfl, _⟩ := hown.form
        rw [hltn] at hown ⊢
        have HOW := Lib.hid hown
        clear hown
        go_wp2
        go_ret
        exact rtold_yes hg' hltn HOW.out (by omega) e1 e3 HR.out.ne HR.out.lt HZ.out HZB.out HRd0.out e4 (by unfold maxLen; exact e5) e6 e7 HR.out.rlt HZ.out.size hO7
    · have hnews := (HRt.out.below ((Below.refl _ W0).alloc (Nat.le_refl _) (.cells #[] 5))).news
      have HN := Lib.hid hnews
      clear hnews
      go_region_law ((refine step_append_row rfl _ _ 23 rfl 5 (.int .u8 0) 1 1 Try.underlying23 Try.info5 rfl (by decide) W0.heap.size (.slice (some ⟨W0.heap.size, 0, none⟩) 0 0) 0 [] (by simp [Act.eval, Act.put]) (Row.new _ 5 1) ⟨g', o + a, none⟩ n (c - a) ((s.take n).map B8) (by simp [Act.eval, Act.put]) (by rw [List.length_map, hltn]; simp) HN.out (oneCell_map _) (by simp only [maxLen]; omega) (by omega) (W0.heap.size + 1) (by simp) ?_; intro gB' v7' w7 hrow hg' hO7))
      all_goals
        have hown : Own w7 gB' v7' (s.take n) := by
          unfold Own
          rw [hltn]
          simpa using hrow
        clear hrow HN
        obtain ⟨p2, c2, rfl, _⟩ := hown.form
        rw [hltn] at hown ⊢
        have HOW := Lib.hid hown
        clear hown
        go_wp2
        go_ret
        exact rtold_yes hg' hltn HOW.out (by omega) e1 e3 HR.out.ne HR.out.lt HZ.out HZB.out HRd0.out e4 (by unfold maxLen; exact e5) e6 e7 HR.out.rlt HZ.out.size hO7
end Go.Proofs.Ytegmimnhkohaoaa
