/-
  The contracts of package hello's writer's nested, part and share. Conditions: at most 2 to the 46th bytes stand in it.
-/
import Derived.Test.YtegmimnhkohaoaaZg1
import Derived.Lib.AppendZerosOnto
import Derived.Deep.RegionHeld3
import Derived.Lib.Mul64
import Derived.Deep.CutBlock
import Derived.Deep.CutRange
namespace Go.Proofs.Ytegmimnhkohaoaa
open Go.RowKit Go.Kx
set_option linter.unusedVariables false
set_option linter.unusedSimpArgs false

/-- What a closure does that puts parts into a writer that is new. -/
def Known (k : FuncId) : Prop := ∀ (args : Array Value) (w : World), (callFunc k args).run Try.prog w = .ok (.enter k args) w
def Puts (w : World) (k : FuncId) (cap : Value) (y : WS) : Prop := Known k ∧ ∀ (h : Nat) (w' : World), w.heap.size ≤ h → Below w.heap.size w w' → Wr w' h ([], false) → Calls Try.prog k #[rp h, cap] w' (WrR w' h y)
/-- What nested, part make of it. -/
def wN (x y : WS) (W : Int) : WS := wV (wM x (!y.2)) y.1 W 0 65535
def wP (x : WS) (kind : Int) (there : Bool) (y : WS) : WS := if there then wV (wU (wM x (!y.2)) kind 2) y.1 2 0 65535 else x

set_option maxHeartbeats 4000000 in
set_option maxRecDepth 100000 in
theorem wnested_c (r : Nat) (x y : WS) (W : Int) (k : FuncId) (cap : Value) (w : World) (hr : Wr w r x) (hW : W ≤ 2) (hl : x.1.length ≤ 70368744177664) (hf : Puts w k cap y) :
    Calls Try.prog 32 #[rp r, .int .i64 W, .func (.func k) #[] #[cap]] w (WrR w r (wN x y W)) := by
  have hlt := hr.lt
  have hW0 := Wr.new w
  have hB0 : Below w.heap.size w (w.alloc (.cells #[.slice none 0 0, .bool false] 80)) := (Below.refl _ _).alloc (Nat.le_refl _) _
  have hkn := hf.1
  unfold Known at hkn
  have HF := Lib.hid (And.intro hf.2 (And.intro hW0 (And.intro hB0 hr)))
  clear hf hW0 hB0 hr
  go_enter Try.func32, Try.ntmps32
  go_wp2_with fail
  refine (HF.out.1 w.heap.size _ (Nat.le_refl _) HF.out.2.2.1 HF.out.2.1).mono ?_
  rintro e w1 ⟨rfl, hY1, ho1⟩
  have hB1 : Below w.heap.size w w1 := below_only HF.out.2.2.1 HF.out.2.2.1.size ho1 (by intro k hk e; omega)
  have hX1 := HF.out.2.2.2.below hB1
  have HB1 := Lib.hid hB1
  clear hB1 ho1
  obtain ⟨g, p, n, c, hbx, hn, hg, hO⟩ := hY1.ex
  have d1 := hbx.c1
  have hpc : p = none → c = 0 := by obtain ⟨p', c', he, _, _, _, hp, _⟩ := hO.form; cases he; exact hp
  have HO := Lib.hid (And.intro hO (And.intro hn hpc))
  clear hO hn hpc
  go_wp2_with (first
    | (go_at_call 27; refine (wr_must r (!y.2) x _ hX1).mono ?_; rintro e w2 ⟨rfl, hX2, ho2⟩; have d0 := (hbx.only ho2 (by omega)).c0; have HX2 := Lib.hid (And.intro hX2 ho2); have hrd := (HO.out.1.only ho2 (by omega)).rd; have HRD := Lib.hid (hrd.mono (T := (· ≠ r)) (fun q _ hq => by omega)); clear hrd hX2 ho2)
    | (go_at_call 31; refine (wvec_c r (wM x (!y.2)) _ _ _ y.1 W 0 65535 _ HX2.out.1 HO.out.2.1 HRD.out HO.out.2.2 hW hl).mono ?_; rintro e w3 ⟨rfl, hX3, ho3⟩))
  go_end0
  exact ⟨rfl, hX3, ((Only.of_below HB1.out).then HX2.out.2).then ho3⟩

set_option maxHeartbeats 4000000 in
set_option maxRecDepth 100000 in
theorem wpart_c (r : Nat) (x y : WS) (kind : Int) (there : Bool) (k : FuncId) (cap : Value) (w : World) (hr : Wr w r x) (hl : x.1.length + 4 ≤ 70368744177664) (hf : there = true → Puts w k cap y) :
    Calls Try.prog 69 #[rp r, .int .i64 kind, .bool there, .func (.func k) #[] #[cap]] w (WrR w r (wP x kind there y)) := by
  have hlt := hr.lt
  cases there
  · clear hf
    go_enter Try.func69, Try.ntmps69
    go_wp2
    go_end0
    exact ⟨rfl, hr, Only.refl _ _⟩
  · have hf := hf rfl
    have hW0 := Wr.new w
    have hB0 : Below w.heap.size w (w.alloc (.cells #[.slice none 0 0, .bool false] 80)) := (Below.refl _ _).alloc (Nat.le_refl _) _
    have hkn := hf.1
    unfold Known at hkn
    have hwu := wU_len (wM x (!y.2)) kind 2 (by decide)
    have hwm : (wM x (!y.2)).1.length = x.1.length := rfl
    have hy : wP x kind true y = wV (wU (wM x (!y.2)) kind 2) y.1 2 0 65535 := if_pos rfl
    have HY := Lib.hid hy
    clear hy
    have HF := Lib.hid (And.intro hf.2 (And.intro hW0 (And.intro hB0 hr)))
    have HL := Lib.hid (And.intro hwu hwm)
    clear hf hW0 hB0 hr hwu hwm
    go_enter Try.func69, Try.ntmps69
    go_wp2_with fail
    refine (HF.out.1 w.heap.size _ (Nat.le_refl _) HF.out.2.2.1 HF.out.2.1).mono ?_
    rintro e w1 ⟨rfl, hY1, ho1⟩
    have hB1 : Below w.heap.size w w1 := below_only HF.out.2.2.1 HF.out.2.2.1.size ho1 (by intro k hk e; omega)
    have hX1 := HF.out.2.2.2.below hB1
    have HB1 := Lib.hid hB1
    clear hB1 ho1
    obtain ⟨g, p, n, c, hbx, hn, hg, hO⟩ := hY1.ex
    have d1 := hbx.c1
    have hpc : p = none → c = 0 := by obtain ⟨p', c', he, _, _, _, hp, _⟩ := hO.form; cases he; exact hp
    have HO := Lib.hid (And.intro hO (And.intro hn hpc))
    clear hO hn hpc
    go_wp2_with (first
      | (go_at_call 27; refine (wr_must r (!y.2) x _ hX1).mono ?_; rintro e w2 ⟨rfl, hX2, ho2⟩; have HX2 := Lib.hid (And.intro hX2 ho2); clear hX2 ho2)
      | (go_at_call 30; refine (wuint_c r (wM x (!y.2)) kind 2 _ HX2.out.1 (by have := HL.out.2; omega)).mono ?_; rintro e w3 ⟨rfl, hX3, ho3⟩; have hoo := HX2.out.2.then ho3; have d0 := (hbx.only hoo (by omega)).c0; have HX3 := Lib.hid (And.intro hX3 hoo); have hrd := (HO.out.1.only hoo (by omega)).rd; have HRD := Lib.hid (hrd.mono (T := (· ≠ r)) (fun q _ hq => by omega)); clear hrd hX3 ho3 hoo)
      | (go_at_call 31; refine (wvec_c r _ _ _ _ y.1 2 0 65535 _ HX3.out.1 HO.out.2.1 HRD.out HO.out.2.2 (by decide) (by have := HL.out; omega)).mono ?_; rintro e w4 ⟨rfl, hX4, ho4⟩))
    go_end0
    rw [HY.out]
    exact ⟨rfl, hX4, ((Only.of_below HB1.out).then HX3.out.2).then ho4⟩

def wS (x : WS) (g : Int) (v : List UInt8) : WS := wV (wU x g 2) v 2 1 64
set_option maxHeartbeats 4000000 in
set_option maxRecDepth 100000 in
theorem wshare_c (r : Nat) (x : WS) (g : Int) (p2 : Option Addr) (n2 c2 : Nat) (v : List UInt8) (w : World) (hr : Wr w r x) (hl : x.1.length + 4 ≤ 70368744177664) (hv : v.length = n2) (hR2 : Rd w (· < r) p2 v) (hp2 : p2 = none → c2 = 0) :
    Calls Try.prog 72 #[rp r, .agg #[.int .i64 g, .slice p2 n2 c2]] w (WrR w r (wS x g v)) := by
  have hlt := hr.lt
  have hbx := Box2.new w 31 (.int .i64 g) (.slice p2 n2 c2)
  have hB0 : Below w.heap.size w (w.alloc (.cells #[.int .i64 g, .slice p2 n2 c2] 31)) := (Below.refl _ _).alloc (Nat.le_refl _) _
  have hwu := wU_len x g 2 (by decide)
  have c0 := hbx.c0
  have HF := Lib.hid (And.intro (hr.below hB0) (And.intro (hR2.below hB0) hB0))
  clear hr hR2 hB0
  go_enter Try.func72, Try.ntmps72
  go_wp2_with (first
    | (go_at_call 30; refine (wuint_c r x g 2 _ HF.out.1 (by omega)).mono ?_; rintro e w3 ⟨rfl, hX3, ho3⟩; have d1 := (hbx.only ho3 (by omega)).c1; have HX3 := Lib.hid (And.intro hX3 ho3); have hrd := (HF.out.2.1.only ho3 (by intro k hk e; omega)); have HRD := Lib.hid (hrd.mono (T := (· ≠ r)) (fun q _ hq => by omega)); clear hrd hX3 ho3)
    | (go_at_call 31; refine (wvec_c r _ _ _ _ v 2 1 64 _ HX3.out.1 hv HRD.out hp2 (by decide) (by omega)).mono ?_; rintro e w4 ⟨rfl, hX4, ho4⟩))
  go_end0
  exact ⟨rfl, hX4, ((Only.of_below HF.out.2.2).then HX3.out.2).then ho4⟩
end Go.Proofs.Ytegmimnhkohaoaa
/-
  Steps of a region that draws its order: min, append of bytes that lie somewhere, append of zeros. Conditions: those of each.
-/
namespace Go.Kx
open Go.RowKit

/-- A builtin's call as one step of a region that draws its order. -/
theorem step_builtin {P : Program} {ops : Array Oper} {w : World} {o : Oper} {a : Act} {K : Act → World → Prop} {Q : Exit → Act → World → Prop} {E : Prop} (hgd : o.guard = none) (s x : Operand) (t u : TypeId)
    (ho : o.op = .call { callee := .builtin .append, args := #[s, x], argTypes := #[t, u] }) (v y : Value) (hs : a.eval s = v) (hx : a.eval x = y) {v' : Value} {w' : World}
    (hr : (Builtin.append_ #[t, u] o.type #[v, y]).run P w = .ok v' w') (h : K (a.put o.dst v') w') :
    if Region.wanted o (yielded ops a.tmps) = true then Oper.wp P o a w K Q else E := by
  have hw : Region.wanted o (yielded ops a.tmps) = true := by simp [Region.wanted, hgd]
  rw [if_pos hw]
  unfold Oper.wp execOp
  simp only [ho, resolve, invoke, builtin, Sem.run_bind, Sem.run_pure, Result.andThen_ok, List.map_toArray, List.map_cons, List.map_nil, hs, hx, hr]
  exact h

theorem run_min {P : Program} (w : World) (ts : Array TypeId) (t : TypeId) (n c : Int) : (Builtin.min_ ts t #[.int .i64 n, .int .i64 c]).run P w = .ok (.int .i64 (min n c)) w := by
  have h : Builtin.min2 (.int .i64 n) (.int .i64 c) = pure (.int .i64 (min n c)) := by
    unfold Builtin.min2
    show pure (Value.int .i64 (if c < n then c else n)) = _
    congr 2
    split <;> omega
  simp [Builtin.min_, h, Sem.run_pure]

/-- min(n, c) of ints as one step. -/
theorem step_min {P : Program} {ops : Array Oper} {w : World} {o : Oper} {a : Act} {K : Act → World → Prop} {Q : Exit → Act → World → Prop} {E : Prop} (hgd : o.guard = none) (s x : Operand) (t u : TypeId)
    (ho : o.op = .call { callee := .builtin .min, args := #[s, x], argTypes := #[t, u] }) (n c m : Int) (hs : a.eval s = .int .i64 n) (hx : a.eval x = .int .i64 c) (hm : min n c = m) (h : K (a.put o.dst (.int .i64 m)) w) :
    if Region.wanted o (yielded ops a.tmps) = true then Oper.wp P o a w K Q else E := by
  have hw : Region.wanted o (yielded ops a.tmps) = true := by simp [Region.wanted, hgd]
  subst hm
  rw [if_pos hw]
  unfold Oper.wp execOp
  simp only [ho, resolve, invoke, builtin, Sem.run_bind, Sem.run_pure, Result.andThen_ok, List.map_toArray, List.map_cons, List.map_nil, hs, hx, run_min]
  exact h

/-- append of bytes that lie somewhere, as a run. -/
theorem run_append_bytes {P : Program} (w : World) (t ty : TypeId) (ht : P.underlying t = some (.slice 5)) (hi : (P.info? 5).map (fun i => (i.zero, i.size, i.bytes)) = some (some (.int .u8 0), 1, 1))
    (g : Nat) (v : Value) (l : List UInt8) (hown : Own w g v l) (S : Nat → Prop) (p : Option Addr) (m c : Nat) (news : List UInt8) (hm : news.length = m) (hnil : p = none → c = 0) (hn : Rd w S p news) (hbytes : l.length + news.length ≤ 140737488355328) :
    ∃ g' v' w', (Builtin.append_ #[t, t] ty #[v, .slice p m c]).run P w = .ok v' w' ∧ Own w' g' v' (l ++ news) ∧ (g' = g ∨ g' = w.heap.size) ∧ Only (· = g) w w' := by
  subst hm
  cases p with
  | none =>
    have hl := hn.none_nil
    subst hl
    rw [hnil rfl]
    obtain ⟨i, hi0, hz0, hz1, hz2⟩ := info_parts hi
    have hrun := run_append_owned_none (P := P) (w := w) 0 t ty 5 i 1 ht hi0 v l.length (l.map B8) hown.1
    exact ⟨g, v, w, hrun, by simpa using hown, .inl rfl, Only.refl _ _⟩
  | some ad =>
    have hnews : ∀ j u, (news.map B8)[j]? = some u → w.cell? (ad.add j) = some u := by
      intro j u hu
      simp only [List.getElem?_map, Option.map_eq_some_iff] at hu
      obtain ⟨b, hb, rfl⟩ := hu
      obtain ⟨hj, rfl⟩ := List.getElem?_eq_some_iff.1 hb
      obtain ⟨a', ha', _, hc'⟩ := hn j hj
      cases ha'
      exact hc'
    obtain ⟨g', v', w', hr, hrow, hg', hgr, hnl⟩ := run_append_row (P := P) w t ty 5 (.int .u8 0) 1 1 ht hi rfl (by decide) g v l.length (l.map B8) hown ad news.length c (news.map B8) (by simp) hnews (oneCell_map _) (by unfold maxLen; omega) (by omega)
    refine ⟨g', v', w', hr, ?_, hg', ?_⟩
    · unfold Own; simpa using hrow
    · exact (Only.of_grown hgr).mono fun k _ hk => by
        rcases hown.2 with h | h
        · rw [h] at hk; cases hk
        · rw [h] at hk; cases hk; rfl

theorem zeroCells_one (x : Value) (n : Nat) : Builtin.zeroCells #[x] n = (List.replicate n x).toArray := by
  unfold Builtin.zeroCells
  apply Array.ext
  · simp
  · intro i h1 h2
    simp
    rw [show i % 1 = 0 from by omega]
    rfl

theorem map_zeros (k : Nat) : (List.replicate k (0 : UInt8)).map B8 = List.replicate k (.int .u8 0) := by rw [List.map_replicate]; rfl

/-- append(s, make([]byte, k)...): s the call's own. -/
theorem run_append_zeros {P : Program} (w : World) (t tn ty : TypeId) (kq kn : IntKind) (ht : P.underlying t = some (.slice 5)) (htn : P.underlying tn = some (.int kn))
    (hinfo : (P.info? 5).map (fun i => (i.zero, i.size, i.bytes)) = some (some (.int .u8 0), 1, 1)) (g : Nat) (v : Value) (l : List UInt8) (hown : Own w g v l) (k : Nat) (hb : l.length + k ≤ 140737488355328) :
    ∃ g' v' w', (Builtin.append_ #[t, tn] ty #[v, .int kq k]).run P w = .ok v' w' ∧ Own w' g' v' (l ++ List.replicate k 0) ∧ (g' = g ∨ g' = w.heap.size) ∧ Only (· = g) w w' := by
  obtain ⟨i, hi, hz, hz1, hz2⟩ := info_parts hinfo
  have hw : IntKind.i64.wrap (k : Int) = k := by rw [IntKind.wrap_i64]; omega
  have hneg : ¬ ((k : Int) < 0) := by omega
  have h48i : ¬ (281474976710656 < (k : Int) * (i.bytes : Int)) := by rw [hz2]; omega
  obtain ⟨⟨hlen, hcase⟩, hgb⟩ := hown
  have hown : Own w g v l := ⟨⟨hlen, hcase⟩, hgb⟩
  by_cases h0 : k = 0
  · subst h0
    refine ⟨g, v, w, ?_, by simpa using hown, .inl rfl, Only.refl _ _⟩
    rcases hcase with ⟨rfl, hn⟩ | ⟨g0, cap, cur, rfl, hbb, hg, hnc, hcm, hcs, htake⟩
    · simp [Builtin.append_, run_underlying ht, run_underlying htn, sizeOf, typeInfo, hi, asInt, asIntOf, IntKind.wrap_i64]
    · simp [Builtin.append_, run_underlying ht, run_underlying htn, sizeOf, typeInfo, hi, asInt, asIntOf, IntKind.wrap_i64, hnc, storeCells]
  · have hns : ¬ (k * i.size = 0) := by rw [hz1]; omega
    have grown : ∀ (old : Nat), old < l.length + k → ∀ ws : World, ws = w.drew.alloc (.cells ((l.map B8).toArray ++ Builtin.zeroCells #[.int .u8 0] k ++ Builtin.zeroCells #[.int .u8 0] (grownCap w (l.length + k) old 5 - (l.length + k))) 5) →
        Own ws w.heap.size (.slice (some ⟨w.heap.size, 0, none⟩) (l.length + k) (grownCap w (l.length + k) old 5)) (l ++ List.replicate k 0) ∧ Only (· = g) w ws := by
      intro old ho ws hws
      subst hws
      have hge := grownCap_ge w (l.length + k) old 5
      have hcm : grownCap w (l.length + k) old 5 ≤ maxLen := grownCap_le_maxLen w (l.length + k) old 5 (by unfold maxLen; omega)
      refine ⟨⟨⟨by simp, .inr ⟨w.heap.size, _, _, by simp, Nat.zero_le _, heap_alloc_new w.drew _, by simpa using hge, hcm, ?_, ?_⟩⟩, .inr rfl⟩, (Only.refl _ _).drew.alloc _⟩
      · simp only [Array.size_append, List.size_toArray, List.length_map, zeroCells_one, List.length_replicate]; omega
      · simp only [zeroCells_one, Array.toList_append, List.append_assoc]
        rw [List.map_append, map_zeros, ← List.append_assoc]
        apply List.take_left'
        simp
    rcases hcase with ⟨rfl, hn⟩ | ⟨g0, cap, cur, rfl, hbb, hg, hnc, hcm, hcs, htake⟩
    · have hl : l = [] := List.length_eq_zero_iff.1 hn
      subst hl
      have hr := Lib.run_append_grow_zeros (P := P) w t tn ty 5 i (.int .u8 0) kq kn ht htn hi hz none 0 0 [] (by simp [Builtin.firstCells, Sem.run_pure]) k (by omega) (by omega) (by omega) (by omega) (by rw [hz2]; omega) (by rw [hz2]; exact growslice_fits (by omega) (by omega))
      obtain ⟨ho, hO⟩ := grown 0 (by simp; omega) _ rfl
      simp only [List.length_nil, Nat.zero_add, show (Value.int .u8 0).cells = #[Value.int .u8 0] from rfl] at ho hO hr
      exact ⟨w.heap.size, _, _, hr, by simpa using ho, .inr rfl, by simpa using hO⟩
    · have hgg : g0 = g := by simpa [Value.ownBlock] using hgb
      subst hgg
      by_cases hroom : l.length + k ≤ cap
      · have hst := run_storeCells_at P g0 (l.length * 1) 5 (List.replicate k (.int .u8 0)) 0 cur w hg (by simp; omega) (by intro u hu; rw [List.mem_replicate] at hu; rw [hu.2]; rfl)
        simp only [Nat.add_zero, Nat.mul_one] at hst
        refine ⟨g0, .slice (some ⟨g0, 0, none⟩) (l.length + k) cap, w.setRow g0 (cur.toList.take l.length ++ List.replicate k (Value.int .u8 0) ++ cur.toList.drop (l.length + k)).toArray, ?_, ?_, .inl rfl, ?_⟩
        · simp [Builtin.append_, run_underlying ht, run_underlying htn, sizeOf, typeInfo, zeroValue, hi, hz, hz1, asInt, asIntOf, hw, hneg, h48i, hroom, zeroCells_one, Addr.add_lit, Value.cells, h0]
          simp only [List.length_replicate, List.append_assoc] at hst
          rw [hst]
          rfl
        · refine ⟨⟨by simp, .inr ⟨g0, cap, _, by simp, Nat.zero_le _, setRow_heap w g0 cur _ 5 _ hg, by simpa using hroom, hcm, ?_, ?_⟩⟩, .inr rfl⟩
          · simp; omega
          · rw [List.map_append, map_zeros, ← htake]
            simp only [Nat.mul_one]
            apply List.take_left'
            simp; omega
        · exact ⟨rfl, rfl, rfl, by simp [World.setRow], fun x _ hx => setRow_other w g0 x _ hx⟩
      · have holds : ∀ j u, (l.map B8)[j]? = some u → w.drew.cell? ((⟨g0, 0, none⟩ : Addr).add j) = some u := World.ownsRow.cells (w := w) hown.1 (g := g0) rfl
        have hr := Lib.run_append_grow_zeros (P := P) w t tn ty 5 i (.int .u8 0) kq kn ht htn hi hz (some ⟨g0, 0, none⟩) l.length cap (l.map B8)
          (run_firstCells_some (P := P) w.drew i.size l.length ⟨g0, 0, none⟩ l.length cap (l.map B8) (by rw [hz1]; simp) holds) k (by omega) (by omega) (by omega) (by omega) (by rw [hz2]; omega) (by rw [hz2]; exact growslice_fits (by omega) (by omega))
        obtain ⟨ho, hO⟩ := grown cap (by omega) _ rfl
        exact ⟨w.heap.size, _, _, hr, ho, .inr rfl, hO⟩
end Go.Kx
/-
  The contracts of relayref08's u16, vec, ext, share. Conditions: at most 2 to the 47th bytes.
-/
namespace Go.Proofs.Ytegmimnhkohaoaa
open Go.RowKit Go.Kx
set_option linter.unusedVariables false
set_option linter.unusedSimpArgs false

/-- The low eight bits. -/
def b8 (z : Int) : UInt8 := UInt8.ofNat (z % 256).toNat
theorem b8_nat (z : Int) : ((b8 z).toNat : Int) = z % 256 := by
  unfold b8
  rw [UInt8.toNat_ofNat']
  omega
def u16L (n : Int) : List UInt8 := [b8 (n / 256), b8 n]
theorem u16L_nat (n : Nat) (h : n < 65536) : u16L (n : Int) = be n 2 := by
  have e1 : b8 ((n : Int) / 256) = UInt8.ofNat (n / 256 ^ 1) := by
    unfold b8
    apply UInt8.toNat_inj.1
    rw [UInt8.toNat_ofNat', UInt8.toNat_ofNat']
    omega
  have e2 : b8 (n : Int) = UInt8.ofNat (n / 256 ^ 0) := by
    unfold b8
    apply UInt8.toNat_inj.1
    rw [UInt8.toNat_ofNat', UInt8.toNat_ofNat']
    omega
  unfold u16L
  rw [e1, e2]
  rfl
theorem Own.lit (w : World) (l : List UInt8) (h : l.length ≤ 1000) : Own (w.alloc (.cells (l.map B8).toArray 5)) w.heap.size (.slice (some ⟨w.heap.size, 0, none⟩) l.length l.length) l :=
  ⟨⟨by simp, .inr ⟨w.heap.size, l.length, (l.map B8).toArray, rfl, Nat.zero_le _, heap_alloc_new w _, Nat.le_refl _, by unfold maxLen; omega, by simp, by simp [List.take_of_length_le]⟩⟩, .inr rfl⟩
theorem u16_c (n : Int) (w : World) : Calls Try.prog 40 #[.int .i64 n] w (PutYes w (u16L n)) := by
  have h := Own.lit w (u16L n) (by simp [u16L])
  have e : (u16L n).map B8 = [.int .u8 (n / 256 % 256), .int .u8 (n % 256)] := by simp [u16L, B8, b8_nat]
  rw [e] at h
  have H := Lib.hid h
  clear h e
  go_enter Try.func40, Try.ntmps40
  go_wp2
  go_ret
  exact ⟨w.heap.size, 2, 2, rfl, rfl, Nat.le_refl _, by rw [World.size_alloc]; omega, Nat.le_refl _, by unfold maxLen; omega, H.out, (Below.refl _ _).alloc (Nat.le_refl _) _⟩

/-- One round of vec. -/
def VRel (w : World) (n W : Nat) (v5 v6 : Value) (wr : World) : Prop :=
  ∃ (k : Nat) (z : Int) (g : Nat) (dn : List UInt8), v6 = .int .i64 z ∧ z = (k : Int) - 1 ∧ k ≤ W ∧ w.heap.size ≤ g ∧ (k < W → g < wr.heap.size) ∧ Own wr g v5 dn ∧ dn ++ be n k = be n W ∧ Below w.heap.size w wr

set_option maxHeartbeats 4000000 in
set_option maxRecDepth 100000 in
theorem rvec8_c (S : Nat → Prop) (p : Option Addr) (n c : Nat) (l : List UInt8) (W : Nat) (w : World) (hR : Rd w S p l) (hp : p = none → c = 0) (hl : l.length + 4 ≤ 140737488355328) (hm : l.length = n) (hW : W = 1 ∨ W = 2) :
    Calls Try.prog 41 #[.slice p n c, .int .i64 (W : Int)] w (PutYes w (be n W ++ l)) := by
  suffices H : ∀ V, V = W → Calls Try.prog 41 #[.slice p n c, .int .i64 (W : Int)] w (PutYes w (be n V ++ l)) from H W rfl
  intro V hV
  have hV4 : 1 ≤ V ∧ V ≤ 2 := by omega
  have hn4 : n ≤ 140737488355328 := by omega
  have HR := Lib.hid (And.intro hR (And.intro hp hm))
  clear hR hp hm
  rcases hW with rfl | rfl
  · show Calls Try.prog 41 #[.slice p n c, .int .i64 1] w (PutYes w (be n V ++ l))
    go_enter Try.func41, Try.ntmps41
    go_wp2
    go_loopw [5, 6] (fun v5 v6 wr => VRel w n V v5 v6 wr) (fun _ v6 _ => (intOf v6 + 1).toNat)
    case atStart => exact ⟨V, _, w.heap.size, [], rfl, by omega, by omega, Nat.le_refl _, by omega, Own.nil _ _, by simp, Below.refl _ _⟩
    case round =>
      obtain ⟨k, z, g, dn, rfl, hz, hk, hg, hgl, hO, hdn, hB⟩ := hrel
      have HO := Lib.hid hO
      have HDN := Lib.hid hdn
      have HBB := Lib.hid hB
      have hdl : dn.length + k ≤ 2 := by
        have := congrArg List.length hdn
        rw [List.length_append, be_length, be_length] at this
        omega
      have hs : w.heap.size ≤ wr.heap.size := hB.size
      clear hO hdn hB
      by_cases hk0 : k = 0
      · subst hk0
        obtain rfl : z = -1 := by omega
        clear hz hk
        have hd : dn = be n V := by have := HDN.out; simpa [be] using this
        subst hd
        clear HDN
        have hRr := HR.out.1.below HBB.out
        have HRr := Lib.hid hRr
        clear hRr
        go_wp2_with (at_builtin; refine wpList_append_bytes _ rfl _ _ 23 rfl Try.underlying23 Try.info5 g u5 (be n V) rfl HO.out S p n c l rfl HR.out.2.2 HR.out.2.1 HRr.out (by rw [be_length]; omega) ?_; intro g' v' w' hO' hg' ho' hnil; have H9 := Lib.hid (And.intro hO' (And.intro hg' (And.intro ho' hnil))); clear hO' hg' ho' hnil)
        go_ret
        have hnn : v' ≠ .slice none 0 0 := by
          intro e
          have h := H9.out.1.form
          rw [e] at h
          obtain ⟨_, _, h1, _⟩ := h
          simp at h1
          have h3 := h1.2.1
          rw [be_length] at h3
          omega
        obtain ⟨c', rfl, h1, h2, h3⟩ := H9.out.1.shape hnn
        have hsz := H9.out.2.2.1.size
        refine ⟨g', _, c', rfl, rfl, by rcases H9.out.2.1 with h | h <;> omega, h3, h1, h2, H9.out.1, below_only HBB.out hs H9.out.2.2.1 (by intro k hk e; omega)⟩
      · obtain ⟨j, rfl⟩ : ∃ j, k = j + 1 := ⟨k - 1, by omega⟩
        have hj : (j = 0 ∧ z = 0) ∨ (j = 1 ∧ z = 1) := by omega
        have HK := Lib.hid hk
        clear hk
        rcases hj with ⟨hj, rfl⟩ | ⟨hj, rfl⟩
        all_goals
          clear hz
          have HJ := Lib.hid hj
          clear hj
          go_wp2_with (at_builtin; refine wpList_append_row rfl _ _ 23 rfl 5 (.int .u8 0) 1 1 Try.underlying23 Try.info5 rfl (by decide) g u5 dn.length (dn.map B8) rfl (Row.only HO.out ((Only.refl (fun _ => False) wr).alloc _) (fun h => h)) ⟨wr.heap.size, 0, none⟩ 1 1 [_] rfl rfl (cell_one wr _ _) (by simp [Value.oneCell']) (by simp only [maxLen]; omega) (by omega) (wr.heap.size + 1) (by simp) ?_; intro gB' v7' w7 hrow hg' hO7)
          have z7 := hO7.size
          simp only [World.size_alloc] at z7
          have hb7 := below_only (HBB.out.alloc HBB.out.size _) (by simp; have := HBB.out.size; omega) hO7 (by intro k hk e; omega)
          obtain ⟨_, _, _, hf, _⟩ := Row.form hrow
          refine ⟨⟨j, _, gB', dn ++ [UInt8.ofNat (n / 256 ^ j)], rfl, by have := HJ.out; omega, by have := HK.out; omega, by omega, fun _ => (hf (by omega)).2, ?_, by rw [List.append_assoc]; exact HDN.out, hb7⟩, by simp [intOf]⟩
          refine own_snoc _ hrow ?_
          rw [HJ.out, UInt8.toNat_ofNat']
          omega
  · show Calls Try.prog 41 #[.slice p n c, .int .i64 2] w (PutYes w (be n V ++ l))
    go_enter Try.func41, Try.ntmps41
    go_wp2
    go_loopw [5, 6] (fun v5 v6 wr => VRel w n V v5 v6 wr) (fun _ v6 _ => (intOf v6 + 1).toNat)
    case atStart => exact ⟨V, _, w.heap.size, [], rfl, by omega, by omega, Nat.le_refl _, by omega, Own.nil _ _, by simp, Below.refl _ _⟩
    case round =>
      obtain ⟨k, z, g, dn, rfl, hz, hk, hg, hgl, hO, hdn, hB⟩ := hrel
      have HO := Lib.hid hO
      have HDN := Lib.hid hdn
      have HBB := Lib.hid hB
      have hdl : dn.length + k ≤ 2 := by
        have := congrArg List.length hdn
        rw [List.length_append, be_length, be_length] at this
        omega
      have hs : w.heap.size ≤ wr.heap.size := hB.size
      clear hO hdn hB
      by_cases hk0 : k = 0
      · subst hk0
        obtain rfl : z = -1 := by omega
        clear hz hk
        have hd : dn = be n V := by have := HDN.out; simpa [be] using this
        subst hd
        clear HDN
        have hRr := HR.out.1.below HBB.out
        have HRr := Lib.hid hRr
        clear hRr
        go_wp2_with (at_builtin; refine wpList_append_bytes _ rfl _ _ 23 rfl Try.underlying23 Try.info5 g u5 (be n V) rfl HO.out S p n c l rfl HR.out.2.2 HR.out.2.1 HRr.out (by rw [be_length]; omega) ?_; intro g' v' w' hO' hg' ho' hnil; have H9 := Lib.hid (And.intro hO' (And.intro hg' (And.intro ho' hnil))); clear hO' hg' ho' hnil)
        go_ret
        have hnn : v' ≠ .slice none 0 0 := by
          intro e
          have h := H9.out.1.form
          rw [e] at h
          obtain ⟨_, _, h1, _⟩ := h
          simp at h1
          have h3 := h1.2.1
          rw [be_length] at h3
          omega
        obtain ⟨c', rfl, h1, h2, h3⟩ := H9.out.1.shape hnn
        have hsz := H9.out.2.2.1.size
        refine ⟨g', _, c', rfl, rfl, by rcases H9.out.2.1 with h | h <;> omega, h3, h1, h2, H9.out.1, below_only HBB.out hs H9.out.2.2.1 (by intro k hk e; omega)⟩
      · obtain ⟨j, rfl⟩ : ∃ j, k = j + 1 := ⟨k - 1, by omega⟩
        have hj : (j = 0 ∧ z = 0) ∨ (j = 1 ∧ z = 1) := by omega
        have HK := Lib.hid hk
        clear hk
        rcases hj with ⟨hj, rfl⟩ | ⟨hj, rfl⟩
        all_goals
          clear hz
          have HJ := Lib.hid hj
          clear hj
          go_wp2_with (at_builtin; refine wpList_append_row rfl _ _ 23 rfl 5 (.int .u8 0) 1 1 Try.underlying23 Try.info5 rfl (by decide) g u5 dn.length (dn.map B8) rfl (Row.only HO.out ((Only.refl (fun _ => False) wr).alloc _) (fun h => h)) ⟨wr.heap.size, 0, none⟩ 1 1 [_] rfl rfl (cell_one wr _ _) (by simp [Value.oneCell']) (by simp only [maxLen]; omega) (by omega) (wr.heap.size + 1) (by simp) ?_; intro gB' v7' w7 hrow hg' hO7)
          have z7 := hO7.size
          simp only [World.size_alloc] at z7
          have hb7 := below_only (HBB.out.alloc HBB.out.size _) (by simp; have := HBB.out.size; omega) hO7 (by intro k hk e; omega)
          obtain ⟨_, _, _, hf, _⟩ := Row.form hrow
          refine ⟨⟨j, _, gB', dn ++ [UInt8.ofNat (n / 256 ^ j)], rfl, by have := HJ.out; omega, by have := HK.out; omega, by omega, fun _ => (hf (by omega)).2, ?_, by rw [List.append_assoc]; exact HDN.out, hb7⟩, by simp [intOf]⟩
          refine own_snoc _ hrow ?_
          rw [HJ.out, UInt8.toNat_ofNat']
          omega

theorem vec1_c (S : Nat → Prop) (p : Option Addr) (n c : Nat) (l : List UInt8) (w : World) (hR : Rd w S p l) (hp : p = none → c = 0) (hl : l.length + 4 ≤ 140737488355328) (hm : l.length = n) :
    Calls Try.prog 41 #[.slice p n c, .int .i64 1] w (PutYes w (be n 1 ++ l)) := rvec8_c S p n c l 1 w hR hp hl hm (.inl rfl)
theorem vec2_c (S : Nat → Prop) (p : Option Addr) (n c : Nat) (l : List UInt8) (w : World) (hR : Rd w S p l) (hp : p = none → c = 0) (hl : l.length + 4 ≤ 140737488355328) (hm : l.length = n) :
    Calls Try.prog 41 #[.slice p n c, .int .i64 2] w (PutYes w (be n 2 ++ l)) := rvec8_c S p n c l 2 w hR hp hl hm (.inr rfl)
theorem wext_len (kind : Int) (n : Nat) (l : List UInt8) : (u16L kind ++ (be n 2 ++ l)).length = l.length + 4 := by simp [u16L, be_length]; omega
theorem own_ne {w : World} {g : Nat} {v : Value} {l : List UInt8} (h : Own w g v l) (hl : 0 < l.length) : v ≠ .slice none 0 0 := by
  intro e
  obtain ⟨_, _, h1, _⟩ := h.form
  rw [e] at h1
  simp at h1
  omega
theorem PutYes.of {w w' : World} {g : Nat} {v : Value} {l : List UInt8} (h : Own w' g v l) (hl : 0 < l.length) (hg : w.heap.size ≤ g) (hb : Below w.heap.size w w') : PutYes w l (.returned v) w' := by
  obtain ⟨c', rfl, h1, h2, h3⟩ := h.shape (own_ne h hl)
  exact ⟨g, _, c', rfl, rfl, hg, h3, h1, h2, h, hb⟩

set_option maxHeartbeats 4000000 in
set_option maxRecDepth 100000 in
theorem rext_c (kind : Int) (S : Nat → Prop) (p : Option Addr) (n c : Nat) (l : List UInt8) (w : World) (hR : Rd w S p l) (hp : p = none → c = 0) (hl : l.length + 8 ≤ 140737488355328) (hm : l.length = n) :
    Calls Try.prog 39 #[.int .i64 kind, .slice p n c] w (PutYes w (u16L kind ++ (be n 2 ++ l))) := by
  have HR := Lib.hid (And.intro hR (And.intro hp hm))
  clear hR hp hm
  go_enter Try.func39, Try.ntmps39
  go_wp2_with (first
    | (go_at_call 40; refine (u16_c kind _).mono ?_; rintro e w1 ⟨g1, n1, c1, rfl, l1, h1, h2, h3, h4, h5, h6⟩; have H1 := Lib.hid (And.intro l1 (And.intro h5 h6)); clear l1 h5 h6)
    | (go_at_call 41; refine (vec2_c S p n c l _ (HR.out.1.below H1.out.2.2) HR.out.2.1 (by omega) HR.out.2.2).mono ?_; rintro e w2 ⟨g2, n2, c2, rfl, l2, k1, k2, k3, k4, k5, k6⟩; have H2 := Lib.hid (And.intro l2 (And.intro k5 (And.intro k6 (Own.keep H1.out.2.1 k6)))); clear l2 k5 k6)
    | (at_builtin; refine wpList_append_bytes _ rfl _ _ 23 rfl Try.underlying23 Try.info5 g1 _ (u16L kind) rfl H2.out.2.2.2 (fun k => k = g2) _ n2 c2 (be n 2 ++ l) rfl H2.out.1 (by intro h; cases h) H2.out.2.1.rd (by simp [u16L, be_length]; omega) ?_; intro g' v' w' hO' hg' ho' hnil; have H9 := Lib.hid (And.intro hO' (And.intro hg' ho')); clear hO' hg' ho' hnil))
  go_ret
  have hs := H1.out.2.2.size
  have hs2 := H2.out.2.2.1.size
  refine PutYes.of H9.out.1 (by rw [wext_len]; omega) (by rcases H9.out.2.1 with h | h <;> omega) (below_only (H1.out.2.2.trans (H2.out.2.2.1.mono hs)) (by omega) H9.out.2.2 (by intro k hk e; omega))

def shareB (g : Int) (n : Nat) : Bool := (decide (0 ≤ g) && decide (g ≤ 65535)) && (decide (1 ≤ n) && decide (n ≤ 64))
theorem rshare_c (g : Int) (p : Option Addr) (n c : Nat) (w : World) : Calls Try.prog 38 #[.agg #[.int .i64 g, .slice p n c]] w fun e w' => e = .returned (.bool (shareB g n)) ∧ Below w.heap.size w w' := by
  have hbx := Box2.new w 25 (.int .i64 g) (.slice p n c)
  have hB0 : Below w.heap.size w (w.alloc (.cells #[.int .i64 g, .slice p n c] 25)) := (Below.refl _ _).alloc (Nat.le_refl _) _
  have c0 := hbx.c0
  have c1 := hbx.c1
  have HB := Lib.hid hB0
  clear hbx hB0
  go_enter Try.func38, Try.ntmps38
  go_wp2
  all_goals go_ret
  all_goals (refine ⟨congrArg Ending.returned (congrArg Value.bool ?_), HB.out⟩; unfold shareB; rw [Bool.eq_iff_iff]; simp only [Bool.and_eq_true, decide_eq_true_eq, Bool.false_eq_true, false_iff]; omega)

/-- Values that lie somewhere. -/
def RdV (w : World) (S : Nat → Prop) (p : Option Addr) (l : List Value) : Prop := ∀ i (h : i < l.length), ∃ a, p = some a ∧ S a.block ∧ w.cell? (a.add i) = some l[i]
theorem RdV.nil (w : World) (S : Nat → Prop) (p : Option Addr) : RdV w S p [] := fun i h => absurd h (by simp)
theorem RdV.none_nil {w : World} {S : Nat → Prop} {l : List Value} (h : RdV w S none l) : l = [] := by
  cases l with
  | nil => rfl
  | cons b r => obtain ⟨a, ha, _⟩ := h 0 (by simp); cases ha
theorem RdV.kept {w w' : World} {S : Nat → Prop} {p : Option Addr} {l : List Value} (h : RdV w S p l) (hk : ∀ k, k < w.heap.size → S k → w'.heap[k]? = w.heap[k]?) : RdV w' S p l := by
  intro i hi
  obtain ⟨a, rfl, hs, hc⟩ := h i hi
  refine ⟨a, rfl, hs, ?_⟩
  have hlt : a.block < w.heap.size := by have := World.block_lt_of_cell? w _ hc; rwa [add_block] at this
  exact (World.cell?_of_block (w := w) (w' := w') (by rw [add_block]; exact hk a.block hlt hs)).trans hc
theorem RdV.only {w w' : World} {S r : Nat → Prop} {p : Option Addr} {l : List Value} (h : RdV w S p l) (ho : Only r w w') (hd : ∀ k, S k → ¬ r k) : RdV w' S p l := h.kept fun k hk hs => ho.block k hk (hd k hs)
theorem RdV.below {w w' : World} {S : Nat → Prop} {p : Option Addr} {l : List Value} (h : RdV w S p l) (ho : Below w.heap.size w w') : RdV w' S p l := h.kept fun k hk _ => ho.block k hk
theorem RdV.mono {w : World} {S T : Nat → Prop} {p : Option Addr} {l : List Value} (h : RdV w S p l) (hd : ∀ k, k < w.heap.size → S k → T k) : RdV w T p l := by
  intro i hi
  obtain ⟨a, rfl, hs, hc⟩ := h i hi
  exact ⟨a, rfl, hd _ (by have := World.block_lt_of_cell? w _ hc; rwa [add_block] at this) hs, hc⟩
theorem RdV.at {w : World} {S : Nat → Prop} {p : Option Addr} {l : List Value} (h : RdV w S p l) (hne : 0 < l.length) :
    ∃ g o, p = some ⟨g, o, none⟩ ∧ S g ∧ g < w.heap.size ∧ ∀ i (h : i < l.length), w.cell? ⟨g, o + i, none⟩ = some l[i] := by
  obtain ⟨⟨g, o, s⟩, rfl, hS, hc⟩ := h 0 hne
  have hs : s = none := by simpa [Addr.add] using World.cell?_spot hc
  subst hs
  refine ⟨g, o, rfl, hS, by have := World.block_lt_of_cell? w _ hc; simpa [Addr.add] using this, fun i hi => ?_⟩
  obtain ⟨a, ha, _, hc'⟩ := h i hi
  cases ha
  simp only [Addr.add] at hc'
  split at hc'
  · subst_vars; exact hc'
  · exact hc'
/-- A number as a cell. -/
abbrev I64 (n : Int) : Value := .int .i64 n
def RdI (w : World) (S : Nat → Prop) (p : Option Addr) (l : List Int) : Prop := RdV w S p (l.map I64)
theorem RdI.at {w : World} {S : Nat → Prop} {p : Option Addr} {l : List Int} (h : RdI w S p l) (hne : 0 < l.length) :
    ∃ g o, p = some ⟨g, o, none⟩ ∧ S g ∧ g < w.heap.size ∧ ∀ i (h : i < l.length), w.cell? ⟨g, o + i, none⟩ = some (.int .i64 l[i]) := by
  obtain ⟨g, o, h1, h2, h3, h4⟩ := RdV.at h (by simpa using hne)
  exact ⟨g, o, h1, h2, h3, fun i hi => by have := h4 i (by simpa using hi); simpa using this⟩

def in16 (x : Int) : Bool := decide (0 ≤ x) && decide (x ≤ 65535)
def all16B (l : List Int) (most : Int) : Bool := l.all in16 && decide ((l.length : Int) ≤ most)
theorem all_take_succ {α : Type} (f : α → Bool) (l : List α) (i : Nat) (h : i < l.length) : (l.take (i + 1)).all f = ((l.take i).all f && f l[i]) := by
  rw [List.take_succ_eq_append_getElem h, List.all_append]
  simp
theorem all_of_not {α : Type} (f : α → Bool) (l : List α) (i : Nat) (h : i < l.length) (hf : f l[i] = false) : l.all f = false := by
  rw [List.all_eq_false]
  exact ⟨l[i], List.getElem_mem h, by simp [hf]⟩
set_option maxHeartbeats 4000000 in
set_option maxRecDepth 100000 in
theorem all16_c (S : Nat → Prop) (p : Option Addr) (n c : Nat) (l : List Int) (most : Int) (w : World) (hR : RdI w S p l) (hm : l.length = n) (hn : n ≤ 140737488355328) : Calls Try.prog 36 #[.slice p n c, .int .i64 most] w fun e w' => e = .returned (.bool (all16B l most)) ∧ w = w' := by
  subst hm
  have HR := Lib.hid hR
  clear hR
  obtain ⟨r, hr⟩ : ∃ r, r = all16B l most := ⟨_, rfl⟩
  rw [← hr]
  have HX := Lib.hid hr
  clear hr
  go_enter Try.func36, Try.ntmps36
  go_wp2
  go_loop [5] (fun v5 => ∃ i : Nat, i ≤ l.length ∧ v5 = .int .i64 (i : Int) ∧ (l.take i).all in16 = true) (fun v5 => (l.length - (intOf v5).toNat))
  case atStart => exact ⟨0, by omega, rfl, rfl⟩
  case round =>
    obtain ⟨i, hi, rfl, hal⟩ := hrel
    have HA := Lib.hid hal
    clear hal
    by_cases hlt : i < l.length
    · obtain ⟨g, o, rfl, -, hg, hc⟩ := HR.out.at (by omega)
      have hci := hc i hlt
      have hts := all_take_succ in16 l i hlt
      have hno := all_of_not in16 l i hlt
      obtain ⟨x, hx⟩ : ∃ x, x = l[i] := ⟨_, rfl⟩
      rw [← hx] at hci hts hno
      have HT := Lib.hid (And.intro hts hno)
      clear hts hno hx hc
      have HLT := Lib.hid hlt
      by_cases h1 : x < 0
      · have hf : in16 x = false := by unfold in16; simp; omega
        have HF := Lib.hid (HT.out.2 hf)
        clear hf
        go_wp2
        go_ret
        refine ⟨congrArg Ending.returned (congrArg Value.bool ?_), rfl⟩
        rw [HX.out]; unfold all16B; rw [HF.out]; rfl
      · by_cases h2 : 65535 < x
        · have hf : in16 x = false := by unfold in16; simp; omega
          have HF := Lib.hid (HT.out.2 hf)
          clear hf
          go_wp2
          go_ret
          refine ⟨congrArg Ending.returned (congrArg Value.bool ?_), rfl⟩
          rw [HX.out]; unfold all16B; rw [HF.out]; rfl
        · have hf : in16 x = true := by unfold in16; simp; omega
          have HF := Lib.hid hf
          clear hf
          go_wp2
          go_round
          case rel => exact ⟨i + 1, by have := HLT.out; omega, by go_num, by rw [HT.out.1, HA.out, HF.out]; rfl⟩
          case measure => have := HLT.out; simp [intOf]; omega
    · obtain rfl : i = l.length := by omega
      have hl : l.take l.length = l := List.take_length
      have HL := Lib.hid hl
      clear hl
      go_wp2
      go_ret
      refine ⟨congrArg Ending.returned (congrArg Value.bool ?_), rfl⟩
      have h := HA.out
      rw [HL.out] at h
      rw [HX.out]; unfold all16B; rw [h]; rfl
end Go.Proofs.Ytegmimnhkohaoaa
/-
  The contract of package hello's writer's list. Conditions: at most 2 to the 46th bytes stand in it; at most 2 to the 44th numbers.
-/
namespace Go.Proofs.Ytegmimnhkohaoaa
open Go.RowKit Go.Kx
set_option linter.unusedVariables false
set_option linter.unusedSimpArgs false

/-- Numbers side by side. -/
def wI (l : List Int) : WS := l.foldl (fun y n => wU y n 2) ([], false)
theorem wI_snoc (l : List Int) (n : Int) : wI (l ++ [n]) = wU (wI l) n 2 := by unfold wI; rw [List.foldl_append]; rfl
theorem wI_len (l : List Int) : (wI l).1.length ≤ 4 * l.length := by
  have key : ∀ (l : List Int) (y : WS), (l.foldl (fun y n => wU y n 2) y).1.length ≤ y.1.length + 4 * l.length := by
    intro l
    induction l with
    | nil => intro y; simp
    | cons n t ih =>
      intro y
      have h1 := ih (wU y n 2)
      have h2 := wU_len y n 2 (by decide)
      simp only [List.foldl_cons, List.length_cons]
      omega
  have := key l ([], false)
  unfold wI
  simpa using this
def wL (x : WS) (l : List Int) (W most : Int) : WS := wV (wM (wM x (decide (1 ≤ l.length) && decide ((l.length : Int) ≤ most))) (!(wI l).2)) (wI l).1 W 0 65535
theorem RdI.only {w w' : World} {S q : Nat → Prop} {p : Option Addr} {l : List Int} (h : RdI w S p l) (ho : Only q w w') (hd : ∀ k, S k → ¬ q k) : RdI w' S p l := RdV.only h ho hd
theorem RdI.below {w w' : World} {S : Nat → Prop} {p : Option Addr} {l : List Int} (h : RdI w S p l) (ho : Below w.heap.size w w') : RdI w' S p l := RdV.below h ho
theorem RdI.mono {w : World} {S T : Nat → Prop} {p : Option Addr} {l : List Int} (h : RdI w S p l) (hd : ∀ k, k < w.heap.size → S k → T k) : RdI w T p l := RdV.mono h hd

set_option maxHeartbeats 8000000 in
set_option maxRecDepth 100000 in
theorem wlist_c (r : Nat) (x : WS) (p : Option Addr) (n c : Nat) (l : List Int) (W most : Int) (w : World) (hr : Wr w r x) (hR : RdI w (· ≠ r) p l) (hn : l.length = n) (hl : n ≤ 8796093022208) (hx : x.1.length ≤ 70368744177664) (hW : W ≤ 2) :
    Calls Try.prog 51 #[rp r, .slice p n c, .int .i64 W, .int .i64 most] w (WrR w r (wL x l W most)) := by
  have hlt := hr.lt
  obtain ⟨b1, hb1⟩ : ∃ b, b = decide (1 ≤ l.length) := ⟨_, rfl⟩
  obtain ⟨b2, hb2⟩ : ∃ b, b = decide ((l.length : Int) ≤ most) := ⟨_, rfl⟩
  have hw : wL x l W most = wV (wM (wM x (b1 && b2)) (!(wI l).2)) (wI l).1 W 0 65535 := by unfold wL; rw [hb1, hb2]
  rw [hn] at hb1 hb2
  have H0 := Lib.hid (And.intro hr (And.intro hR (And.intro hn hw)))
  have hwl := wI_len l
  rw [hn] at hwl
  clear hr hR hn hw
  cases b1 <;> cases b2 <;> (
    have hc1 : decide (1 ≤ (n : Int)) = _ := (show decide (1 ≤ (n : Int)) = decide (1 ≤ n) by rw [Bool.eq_iff_iff]; simp; omega).trans hb1.symm
    have hc2 := hb2.symm
    have hc3 := hb1.symm
    clear hb1 hb2
    go_enter Try.func51, Try.ntmps51
    go_upto_region 3 with (go_at_call 27; refine (wr_must r _ x _ H0.out.1).mono ?_; rintro e w1 ⟨rfl, hX, ho⟩; have H1 := Lib.hid (And.intro hX (And.intro ho (Wr.new w1))); have hz1 := ho.size; clear hX ho)
    clear hc1 hc2 hc3
    have hz2 := World.size_alloc w1 (.cells #[.slice none 0 0, .bool false] 80)
    have hB2 : Below w1.heap.size w1 (w1.alloc (.cells #[.slice none 0 0, .bool false] 80)) := (Below.refl _ _).alloc (Nat.le_refl _) _
    have hI2 : Wr (w1.alloc (.cells #[.slice none 0 0, .bool false] 80)) w1.heap.size ([], false) ∧ RdI (w1.alloc (.cells #[.slice none 0 0, .bool false] 80)) (fun k => k ≠ r ∧ k < w.heap.size) p l ∧ Only (· = r) w (w1.alloc (.cells #[.slice none 0 0, .bool false] 80)) :=
      ⟨H1.out.2.2, ((H0.out.2.1.mono (T := fun k => k ≠ r ∧ k < w.heap.size) (fun k hk h => ⟨h, hk⟩)).only H1.out.2.1 (fun k hk e => hk.1 e)).below hB2, H1.out.2.1.then (Only.of_below hB2)⟩
    have hkey := fun wz (ho : Only (· = w1.heap.size) (w1.alloc (.cells #[.slice none 0 0, .bool false] 80)) wz) => H1.out.1.below (below_only hB2 (by rw [hz2]; omega) ho (by intro k hk e; omega))
    have HKEY := Lib.hid hkey
    clear hkey
    generalize w1.alloc (.cells #[.slice none 0 0, .bool false] 80) = w2 at *
    generalize w1.heap.size = wi at *
    have I2 := Lib.hid hI2
    clear hI2 hB2 H1
    go_loopw [26] (fun v26 wr => ∃ i : Nat, i ≤ n ∧ v26 = .int .i64 (i : Int) ∧ Wr wr wi (wI (l.take i)) ∧ Only (· = wi) w2 wr) (fun v26 _ => n - (intOf v26).toNat)
    case atStart => exact ⟨0, Nat.zero_le _, rfl, I2.out.1, Only.refl _ _⟩
    case round =>
      obtain ⟨i, hi, rfl, hW', hO'⟩ := hrel
      have HW := Lib.hid (And.intro hW' hO')
      have hzr := hO'.size
      clear hW' hO'
      by_cases hlt : i < n
      · have hil : i < l.length := by rw [H0.out.2.2.1]; exact hlt
        have hRr := I2.out.2.1.only HW.out.2 (by intro k hk e; omega)
        obtain ⟨g, o, rfl, -, hg, hc⟩ := hRr.at (by omega)
        have hci := hc i hil
        have hts : l.take (i + 1) = l.take i ++ [l[i]] := List.take_succ_eq_append_getElem hil
        have hln := wI_len (l.take i)
        have hlt2 : (l.take i).length ≤ n := by rw [List.length_take]; omega
        obtain ⟨v, hv⟩ : ∃ v, v = l[i] := ⟨_, rfl⟩
        rw [← hv] at hci hts
        have HT := Lib.hid hts
        clear hts hv hc hRr hil
        have HLT := Lib.hid hlt
        go_wp2_with (go_at_call 30; refine (wuint_c wi (wI (l.take i)) v 2 _ HW.out.1 (by omega)).mono ?_; rintro e w4 ⟨rfl, hX, ho⟩; have H4 := Lib.hid (And.intro hX ho); clear hX ho)
        refine ⟨⟨i + 1, by have := HLT.out; omega, by go_num, by rw [HT.out, wI_snoc]; exact H4.out.1, HW.out.2.then H4.out.2⟩, by have := HLT.out; simp [intOf]; omega⟩
      · obtain rfl : i = n := by omega
        have htl : l.take i = l := by rw [← H0.out.2.2.1]; exact List.take_length
        have hY := HW.out.1
        rw [htl] at hY
        obtain ⟨gy, py, ny, cy, hbx, hny, hgy, hOy⟩ := hY.ex
        have d1 := hbx.c1
        have hpy : py = none → cy = 0 := by obtain ⟨p', c', he, _, _, _, hp, _⟩ := hOy.form; cases he; exact hp
        have hXr := HKEY.out wr HW.out.2
        have HO := Lib.hid (And.intro hOy (And.intro hny (And.intro hpy (And.intro hbx hXr))))
        clear htl hY hbx hny hOy hpy hXr
        go_wp2_with (first
          | (go_at_call 27; refine (wr_must r (!(wI l).2) _ _ HO.out.2.2.2.2).mono ?_; rintro e w5 ⟨rfl, hX, ho⟩; have d0 := (HO.out.2.2.2.1.only ho (by omega)).c0; have HX := Lib.hid (And.intro hX (And.intro ho (HO.out.1.only ho (by omega)))); clear hX ho)
          | (go_at_call 31; refine (wvec_c r _ _ _ _ (wI l).1 W 0 65535 _ HX.out.1 HO.out.2.1 (HX.out.2.2.rd.mono (T := (· ≠ r)) (fun q _ hq => by omega)) HO.out.2.2.1 hW hx).mono ?_; rintro e w6 ⟨rfl, hX, ho⟩; have HZ := Lib.hid (And.intro hX ho); clear hX ho))
        go_end0
        rw [H0.out.2.2.2]
        refine ⟨rfl, HZ.out.1, ?_⟩
        have ha : Only (fun k => k = r ∨ k = wi) w wr := (I2.out.2.2.mono (fun _ _ h => .inl h)).then (HW.out.2.mono (fun _ _ h => .inr h))
        have hb := (ha.then (HX.out.2.1.mono (fun _ _ h => .inl h))).then (HZ.out.2.mono (fun _ _ h => .inl h))
        exact hb.mono (fun k hk h => by rcases h with h | h; exact h; omega))
end Go.Proofs.Ytegmimnhkohaoaa
/-
  The contracts of package hello's writer's binders and ids. Conditions: at most 2 to the 46th bytes in all.
-/
namespace Go.Proofs.Ytegmimnhkohaoaa
open Go.RowKit Go.Kx
set_option linter.unusedVariables false
set_option linter.unusedSimpArgs false
set_option maxRecDepth 100000

/-- Slices of bytes side by side, from p on, in blocks of S; their bytes in blocks of S, too. -/
def BdAt (w : World) (S : Nat → Prop) (p : Option Addr) (l : List (List UInt8)) : Prop := ∀ i (h : i < l.length), ∃ g o q m c, p = some ⟨g, o, none⟩ ∧ S g ∧ w.cell? ⟨g, o + i, none⟩ = some (.slice q m c) ∧ l[i].length = m ∧ Rd w S q l[i] ∧ (q = none → c = 0)
theorem cell_kept {w w' : World} {q : Nat → Prop} {g o : Nat} {v : Value} (ho : Only q w w') (hg : ¬ q g) (hc : w.cell? ⟨g, o, none⟩ = some v) : w'.cell? ⟨g, o, none⟩ = some v := by
  have hlt : g < w.heap.size := World.block_lt_of_cell? w _ hc
  exact (World.cell?_of_block (w := w) (w' := w') (a := ⟨g, o, none⟩) (ho.block g hlt hg)).trans hc
theorem BdAt.only {w w' : World} {S q : Nat → Prop} {p : Option Addr} {l : List (List UInt8)} (h : BdAt w S p l) (ho : Only q w w') (hq : ∀ k, S k → ¬ q k) : BdAt w' S p l := by
  intro i hi
  obtain ⟨g, o, a, m, c, rfl, hS, hc, hl, hr, hn⟩ := h i hi
  exact ⟨g, o, a, m, c, rfl, hS, cell_kept ho (hq _ hS) hc, hl, hr.only ho hq, hn⟩
theorem BdAt.mono {w : World} {S T : Nat → Prop} {p : Option Addr} {l : List (List UInt8)} (h : BdAt w S p l) (hT : ∀ k, k < w.heap.size → S k → T k) : BdAt w T p l := by
  intro i hi
  obtain ⟨g, o, a, m, c, rfl, hS, hc, hl, hr, hn⟩ := h i hi
  exact ⟨g, o, a, m, c, rfl, hT _ (World.block_lt_of_cell? w _ hc) hS, hc, hl, hr.mono hT, hn⟩
def wB (x : WS) (l : List (List UInt8)) : WS := l.foldl (fun y b => wV y b 1 32 32) x
theorem wB_snoc (x : WS) (l : List (List UInt8)) (b : List UInt8) : wB x (l ++ [b]) = wV (wB x l) b 1 32 32 := by unfold wB; rw [List.foldl_append]; rfl
theorem wV1_len (x : WS) (v : List UInt8) (l m : Int) : (wV x v 1 l m).1.length ≤ x.1.length + 256 := by
  unfold wV
  split
  · rename_i hk
    have h2 := (putOk_cast (N := v.length) (V := 1) hk).2
    simp [be_length]; omega
  · simp
theorem wB_len (l : List (List UInt8)) : ∀ x : WS, (wB x l).1.length ≤ x.1.length + 256 * l.length := by
  induction l with
  | nil => intro x; simp [wB]
  | cons b t ih =>
    intro x
    have h1 := ih (wV x b 1 32 32)
    have h2 := wV1_len x b 32 32
    show (wB (wV x b 1 32 32) t).1.length ≤ _
    rw [List.length_cons]
    omega

set_option maxHeartbeats 8000000 in
set_option maxRecDepth 100000 in
theorem wbinders_c (r : Nat) (x : WS) (p : Option Addr) (n c : Nat) (l : List (List UInt8)) (w : World) (hr : Wr w r x) (hR : BdAt w (· ≠ r) p l) (hn : l.length = n) (hnc : n ≤ 9223372036854775807) (hx : x.1.length + 256 * n ≤ 70368744177664) :
    Calls Try.prog 98 #[rp r, .slice p n c] w (WrR w r (wB x l)) := by
  subst hn
  have hlt := hr.lt
  have H0 := Lib.hid (And.intro hr (hR.mono (T := fun k => k ≠ r ∧ k < w.heap.size) (fun k hk h => ⟨h, hk⟩)))
  clear hr hR
  go_enter Try.func98, Try.ntmps98
  go_upto_region 1 with (fail)
  go_loopw [8] (fun v8 wr => ∃ i : Nat, i ≤ l.length ∧ v8 = .int .i64 (i : Int) ∧ Wr wr r (wB x (l.take i)) ∧ Only (· = r) w wr) (fun v8 _ => l.length - (intOf v8).toNat)
  case atStart => exact ⟨0, Nat.zero_le _, rfl, H0.out.1, Only.refl _ _⟩
  case round =>
    obtain ⟨i, hi, rfl, hW', hO'⟩ := hrel
    have HW := Lib.hid (And.intro hW' hO')
    have hzr := hO'.size
    clear hW' hO'
    by_cases hlt : i < l.length
    · obtain ⟨g, o, a, m, k, rfl, hS, hc, hl, hrd, hnl⟩ := (H0.out.2.only HW.out.2 (by intro k hk e; exact hk.1 e)) i hlt
      have hts : l.take (i + 1) = l.take i ++ [l[i]] := List.take_succ_eq_append_getElem hlt
      have hln := wB_len (l.take i) x
      have hlt2 : (l.take i).length ≤ l.length := by rw [List.length_take]; omega
      obtain ⟨v, hv⟩ : ∃ v, v = l[i] := ⟨_, rfl⟩
      rw [← hv] at hts hl hrd
      have HT := Lib.hid (And.intro hts (And.intro hl (And.intro (hrd.mono (T := (· ≠ r)) (fun k _ h => h.1)) hnl)))
      clear hts hv hl hrd hnl
      have HLT := Lib.hid hlt
      go_wp2_with (go_at_call 31; refine (wvec_c r _ _ _ _ v 1 32 32 _ HW.out.1 HT.out.2.1 HT.out.2.2.1 HT.out.2.2.2 (by decide) (by omega)).mono ?_; rintro e w4 ⟨rfl, hX, ho⟩; have H4 := Lib.hid (And.intro hX ho); clear hX ho)
      refine ⟨⟨i + 1, by have := HLT.out; omega, by go_num, by rw [HT.out.1, wB_snoc]; exact H4.out.1, HW.out.2.then H4.out.2⟩, by have := HLT.out; simp [intOf]; omega⟩
    · obtain rfl : i = l.length := by omega
      have htl : l.take l.length = l := List.take_length
      have HTL := Lib.hid htl
      clear htl
      go_wp2
      go_end0
      have h := HW.out.1
      rw [HTL.out] at h
      exact ⟨rfl, h, HW.out.2⟩
end Go.Proofs.Ytegmimnhkohaoaa
/-
  The contracts of package hello's writer's ids, and of the closure that puts shares. Conditions: at most 2 to the 46th bytes in all.
-/
namespace Go.Proofs.Ytegmimnhkohaoaa
open Go.RowKit Go.Kx
set_option linter.unusedVariables false
set_option linter.unusedSimpArgs false
set_option maxRecDepth 100000

/-- Tickets and ages, side by side, from p on. -/
def IdAt (w : World) (S : Nat → Prop) (p : Option Addr) (l : List (List UInt8 × Int)) : Prop := ∀ i (h : i < l.length), ∃ g o q m c, p = some ⟨g, o, none⟩ ∧ S g ∧ w.cell? ⟨g, o + i * 2, none⟩ = some (.slice q m c) ∧ w.cell? ⟨g, o + i * 2 + 1, none⟩ = some (.int .i64 l[i].2) ∧ l[i].1.length = m ∧ Rd w S q l[i].1 ∧ (q = none → c = 0)
theorem IdAt.only {w w' : World} {S q : Nat → Prop} {p : Option Addr} {l : List (List UInt8 × Int)} (h : IdAt w S p l) (ho : Only q w w') (hq : ∀ k, S k → ¬ q k) : IdAt w' S p l := by
  intro i hi
  obtain ⟨g, o, a, m, c, rfl, hS, hc, hd, hl, hr, hn⟩ := h i hi
  exact ⟨g, o, a, m, c, rfl, hS, cell_kept ho (hq _ hS) hc, cell_kept ho (hq _ hS) hd, hl, hr.only ho hq, hn⟩
theorem IdAt.mono {w : World} {S T : Nat → Prop} {p : Option Addr} {l : List (List UInt8 × Int)} (h : IdAt w S p l) (hT : ∀ k, k < w.heap.size → S k → T k) : IdAt w T p l := by
  intro i hi
  obtain ⟨g, o, a, m, c, rfl, hS, hc, hd, hl, hr, hn⟩ := h i hi
  exact ⟨g, o, a, m, c, rfl, hT _ (World.block_lt_of_cell? w _ hc) hS, hc, hd, hl, hr.mono hT, hn⟩
def wId (x : WS) (l : List (List UInt8 × Int)) : WS := l.foldl (fun y t => wU (wV y t.1 2 1 255) t.2 4) x
theorem wId_snoc (x : WS) (l : List (List UInt8 × Int)) (t : List UInt8 × Int) : wId x (l ++ [t]) = wU (wV (wId x l) t.1 2 1 255) t.2 4 := by unfold wId; rw [List.foldl_append]; rfl
theorem wId_len (l : List (List UInt8 × Int)) : ∀ x : WS, (wId x l).1.length ≤ x.1.length + 65541 * l.length := by
  induction l with
  | nil => intro x; simp [wId]
  | cons b t ih =>
    intro x
    have h1 := ih (wU (wV x b.1 2 1 255) b.2 4)
    have h2 := wV_len x b.1 2 1 255 (by decide)
    have h3 := wU_len (wV x b.1 2 1 255) b.2 4 (by decide)
    show (wId (wU (wV x b.1 2 1 255) b.2 4) t).1.length ≤ _
    rw [List.length_cons]
    omega

set_option maxHeartbeats 8000000 in
theorem wids_c (r : Nat) (x : WS) (p : Option Addr) (n c : Nat) (l : List (List UInt8 × Int)) (w : World) (hr : Wr w r x) (hR : IdAt w (· ≠ r) p l) (hn : l.length = n) (hx : x.1.length + 65541 * n ≤ 70368744177664) :
    Calls Try.prog 96 #[rp r, .slice p n c] w (WrR w r (wId (wM x (decide (n ≤ 4))) l)) := by
  subst hn
  have hnc : l.length ≤ 1099511627776 := by omega
  have hlt := hr.lt
  have H0 := Lib.hid (And.intro hr (hR.mono (T := fun k => k ≠ r ∧ k < w.heap.size) (fun k hk h => ⟨h, hk⟩)))
  have hbb : decide ((l.length : Int) ≤ 4) = decide (l.length ≤ 4) := by rw [Bool.eq_iff_iff]; simp; omega
  obtain ⟨b, hb⟩ : ∃ b, b = decide (l.length ≤ 4) := ⟨_, rfl⟩
  rw [← hb] at hbb ⊢
  have HB := Lib.hid hb
  have hb' := hb.symm
  clear hr hR hb
  go_enter Try.func96, Try.ntmps96
  go_upto_region 2 with (go_at_call 27; refine (wr_must r b x _ H0.out.1).mono ?_; rintro e w1 ⟨rfl, hX, ho⟩; have H1 := Lib.hid (And.intro hX ho); have hz1 := ho.size; clear hX ho)
  clear hbb hb'
  go_loopw [13] (fun v13 wr => ∃ i : Nat, i ≤ l.length ∧ v13 = .int .i64 (i : Int) ∧ Wr wr r (wId (wM x b) (l.take i)) ∧ Only (· = r) w wr) (fun v13 _ => l.length - (intOf v13).toNat)
  case atStart => exact ⟨0, Nat.zero_le _, rfl, H1.out.1, H1.out.2⟩
  case round =>
    obtain ⟨i, hi, rfl, hW', hO'⟩ := hrel
    have HW := Lib.hid (And.intro hW' hO')
    have hzr := hO'.size
    clear hW' hO'
    by_cases hlt : i < l.length
    · obtain ⟨g, o, a, m, k, rfl, hS, hc, hd, hl, hrd, hnl⟩ := (H0.out.2.only HW.out.2 (by intro k hk e; exact hk.1 e)) i hlt
      have hts : l.take (i + 1) = l.take i ++ [l[i]] := List.take_succ_eq_append_getElem hlt
      have hln := wId_len (l.take i) (wM x b)
      have hlt2 : (l.take i).length + 1 ≤ l.length := by rw [List.length_take]; omega
      have hwm : (wM x b).1.length ≤ x.1.length := Nat.le_refl _
      obtain ⟨v, hv⟩ : ∃ v, v = l[i] := ⟨_, rfl⟩
      rw [← hv] at hts hl hrd hd
      obtain ⟨tk, age⟩ := v
      simp only at hl hrd hd
      have hvl := wV_len (wId (wM x b) (l.take i)) tk 2 1 255 (by decide)
      have HT := Lib.hid (And.intro hts (And.intro hl (And.intro (hrd.mono (T := fun k => k ≠ r ∧ k < wr.heap.size) (fun k hk h => ⟨h.1, hk⟩)) hnl)))
      have hbx := Box2.new wr 104 (.slice a m k) (.int .i64 age)
      have hBz : Below wr.heap.size wr (wr.alloc (.cells #[.slice a m k, .int .i64 age] 104)) := (Below.refl _ _).alloc (Nat.le_refl _) _
      have HX := Lib.hid (And.intro hbx hBz)
      have hgr := World.block_lt_of_cell? wr _ hc
      have hrl := HW.out.1.lt
      clear hts hv hl hrd hnl hbx hBz
      have HLT := Lib.hid hlt
      go_wp2_with (first
        | (go_at_call 30; refine (wuint_c r _ age 4 _ H4.out.1 (by omega)).mono ?_; rintro e w5 ⟨rfl, hX, ho⟩; have H5 := Lib.hid (And.intro hX (H4.out.2.then ho)); clear hX ho)
        | (go_at_call 31; refine (wvec_c r _ _ _ _ tk 2 1 255 _ (HW.out.1.below HX.out.2) HT.out.2.1 ((HT.out.2.2.1.below HX.out.2).mono (T := (· ≠ r)) (fun k _ h => h.1)) HT.out.2.2.2 (by decide) (by omega)).mono ?_; rintro e w4 ⟨rfl, hX, ho⟩; have d1 := (HX.out.1.only ho (by omega)).c1; have H4 := Lib.hid (And.intro hX ho); clear hX ho))
      refine ⟨⟨i + 1, by have := HLT.out; omega, by go_num, by rw [HT.out.1, wId_snoc]; exact H5.out.1, HW.out.2.then ((Only.of_below HX.out.2).then H5.out.2)⟩, by have := HLT.out; simp [intOf]; omega⟩
    · obtain rfl : i = l.length := by omega
      have htl : l.take l.length = l := List.take_length
      have HTL := Lib.hid htl
      clear htl
      go_wp2
      go_end0
      have h := HW.out.1
      rw [HTL.out] at h
      exact ⟨rfl, h, HW.out.2⟩
end Go.Proofs.Ytegmimnhkohaoaa
/-
  The contracts of sha.right, math/bits.RotateLeft32 and Mul64, and sha.root. Condition: a count from 1 to 31.
-/
namespace Go.Proofs.Ytegmimnhkohaoaa
open Go.RowKit Go.Kx
set_option linter.unusedVariables false
set_option linter.unusedSimpArgs false
attribute [local go_sem ↓] U_add U_mul U_xor U_or U_and U_not
attribute [local go_sem ↓] U_shl U_shr
attribute [local go_sem ↓] D_add D_mul D_xor D_or D_and D_not D_sub D_lss D_eql D_neq
attribute [local go_sem ↓] D_shl D_shr
attribute [local go_sem ↓] U_guard1 U_guard2 D_guard1 D_guard2

theorem and31 (n : Nat) (h : 1 ≤ n ∧ n ≤ 31) : bits .and .u64 (IntKind.u64.wrap (-(n : Int))) 31 = ((32 - n : Nat) : Int) := by
  obtain ⟨h1, h2⟩ := h
  have : n = 1 ∨ n = 2 ∨ n = 3 ∨ n = 4 ∨ n = 5 ∨ n = 6 ∨ n = 7 ∨ n = 8 ∨ n = 9 ∨ n = 10 ∨ n = 11 ∨ n = 12 ∨ n = 13 ∨ n = 14 ∨ n = 15 ∨ n = 16 ∨ n = 17 ∨ n = 18 ∨ n = 19 ∨ n = 20 ∨ n = 21 ∨ n = 22 ∨ n = 23 ∨ n = 24 ∨ n = 25 ∨ n = 26 ∨ n = 27 ∨ n = 28 ∨ n = 29 ∨ n = 30 ∨ n = 31 := by omega
  rcases this with h | h | h | h | h | h | h | h | h | h | h | h | h | h | h | h | h | h | h | h | h | h | h | h | h | h | h | h | h | h | h <;> subst h <;> rfl
theorem sub32 (n : Nat) (h : 1 ≤ n ∧ n ≤ 31) : IntKind.u64.wrap (32 - ((32 - n : Nat) : Int)) = (n : Int) := by
  obtain ⟨h1, h2⟩ := h
  have e : (32 - ((32 - n : Nat) : Int)) = (n : Int) := by omega
  rw [e]
  unfold IntKind.wrap
  simp [IntKind.bits, IntKind.signed]
  omega

theorem rotl_c (x : UInt32) (n : Nat) (w : World) (h : 1 ≤ n ∧ n ≤ 31) : Calls Try.prog 122 #[U x, .int .i64 (-(n : Int))] w fun e w' => e = .returned (U (rotr x n)) ∧ w = w' := by
  have h1 := and31 n h
  have h2 := sub32 n h
  go_enter Try.func122, Try.ntmps122
  go_wp2
  go_ret
  exact ⟨rfl, rfl⟩

theorem rotr_c (x : UInt32) (n : Nat) (w : World) (h : 1 ≤ n ∧ n ≤ 31) : Calls Try.prog 118 #[U x, .int .i64 (n : Int)] w fun e w' => e = .returned (U (rotr x n)) ∧ w = w' := by
  go_enter Try.func118, Try.ntmps118
  go_wp2_with (go_at_call 122; refine (rotl_c x n _ h).mono ?_; rintro e w' ⟨rfl, rfl⟩)
  go_ret
  exact ⟨rfl, rfl⟩

def mulhi (x y : UInt64) : UInt64 := UInt64.ofNat (x.toNat * y.toNat / 18446744073709551616)
theorem and_mask (x : UInt64) : (x &&& 4294967295).toNat = x.toNat % 4294967296 := by
  rw [UInt64.toNat_and]
  exact Nat.and_two_pow_sub_one_eq_mod x.toNat 32
theorem shr_half (x : UInt64) : (shr64 x 32).toNat = x.toNat / 4294967296 := by
  unfold shr64
  have h := x.toNat_lt
  rw [UInt64.toNat_ofNat', Nat.mod_eq_of_lt]
  omega
theorem mul64_eq (x y : UInt64) : shr64 x 32 * shr64 y 32 + shr64 (shr64 x 32 * (y &&& 4294967295) + shr64 ((x &&& 4294967295) * (y &&& 4294967295)) 32) 32 +
    shr64 ((shr64 x 32 * (y &&& 4294967295) + shr64 ((x &&& 4294967295) * (y &&& 4294967295)) 32 &&& 4294967295) + (x &&& 4294967295) * shr64 y 32) 32 = mulhi x y := by
  have hx : x.toNat < 18446744073709551616 := x.toNat_lt
  have hy : y.toNat < 18446744073709551616 := y.toNat_lt
  obtain ⟨bd, bt, bw, hhi⟩ := Lib.mul64_hi x.toNat y.toNat hx hy
  have ba := Lib.half_mul_le (a := x.toNat / 4294967296) (b := y.toNat / 4294967296) (by omega) (by omega)
  have bb := Lib.half_mul_le (a := x.toNat / 4294967296) (b := y.toNat % 4294967296) (by omega) (by omega)
  have bc := Lib.half_mul_le (a := x.toNat % 4294967296) (b := y.toNat / 4294967296) (by omega) (by omega)
  have e : ∀ n : Nat, 2 ^ 64 = 18446744073709551616 := fun _ => rfl
  apply UInt64.toNat_inj.1
  unfold mulhi
  simp only [UInt64.toNat_add, UInt64.toNat_mul, and_mask, shr_half, UInt64.toNat_ofNat', e 0]
  rw [← hhi]
  generalize x.toNat / 4294967296 * (y.toNat / 4294967296) = a at *
  generalize x.toNat / 4294967296 * (y.toNat % 4294967296) = b at *
  generalize x.toNat % 4294967296 * (y.toNat / 4294967296) = c at *
  generalize x.toNat % 4294967296 * (y.toNat % 4294967296) = d at *
  rw [Nat.mod_eq_of_lt bd, Nat.mod_eq_of_lt (by omega : b < 18446744073709551616), Nat.mod_eq_of_lt bt, Nat.mod_eq_of_lt (by omega : c < 18446744073709551616), Nat.mod_eq_of_lt bw, Nat.mod_eq_of_lt (by omega : a < 18446744073709551616), Nat.mod_eq_of_lt (by omega : a + (b + d / 4294967296) / 4294967296 < 18446744073709551616)]
theorem mul64_c (x y : UInt64) (w : World) : Calls Try.prog 121 #[D x, D y] w fun e w' => e = .returned (.tuple #[D (mulhi x y), D (x * y)]) ∧ w = w' := by
  have k1 : Value.int .u64 4294967295 = D 4294967295 := rfl
  have h := mul64_eq x y
  go_enter Try.func121, Try.ntmps121
  go_wp2
  go_ret2
  exact ⟨rfl, rfl⟩

/-! ### root -/
def rnext (r : UInt64) (b : Nat) : UInt64 := r ||| shl64 1 b
def rhigh (n : UInt64) (cube : Bool) : UInt64 := if cube then mulhi n n * n + mulhi (n * n) n else mulhi n n
def rlow (n : UInt64) (cube : Bool) : UInt64 := if cube then n * n * n else n * n
def rmost (p : UInt64) (cube : Bool) : UInt64 := if cube then shl64 p 32 else p
def rstep (p : UInt64) (cube : Bool) (r : UInt64) (b : Nat) : UInt64 :=
  if rhigh (rnext r b) cube < rmost p cube ∨ (rhigh (rnext r b) cube = rmost p cube ∧ rlow (rnext r b) cube = 0) then rnext r b else r
/-- The root behind so many steps. -/
def rootK (p : UInt64) (cube : Bool) : Nat → UInt64
  | 0 => 0
  | k + 1 => rstep p cube (rootK p cube k) (35 - k)
def rootU (p : UInt64) (cube : Bool) : UInt32 := UInt32.ofNat (rootK p cube 36).toNat

/-- What the build of a slice of one number comes to. -/
noncomputable def hidBs (t : TypeId) (v : Value) (w : World) : Result Next := (do let x ← Instr.buildSlice t 1 #[(0, v)]; pure (Next.value x) : Sem Next).run Try.prog w
noncomputable def bs1 (t e : TypeId) (k : IntKind) (v : Value) (w : World) : Result Next :=
  match v with
  | .int k' n => if k = k' then .ok (.value (.slice (some ⟨w.heap.size, 0, none⟩) 1 1)) (w.alloc (.cells #[v] e)) else hidBs t v w
  | _ => hidBs t v w
theorem bs1_D (t : TypeId) (x : UInt64) (w : World) : bs1 t 49 .u64 (D x) w = .ok (.value (.slice (some ⟨w.heap.size, 0, none⟩) 1 1)) (w.alloc (.cells #[D x] 49)) := rfl
theorem bs1_U (t : TypeId) (x : UInt32) (w : World) : bs1 t 142 .u32 (U x) w = .ok (.value (.slice (some ⟨w.heap.size, 0, none⟩) 1 1)) (w.alloc (.cells #[U x] 142)) := rfl
theorem bsrun_D (k : Int) (w : World) : (Instr.buildSlice 151 1 #[(0, .int .u64 k)]).run Try.prog w = .ok (.slice (some ⟨w.heap.size, 0, none⟩) 1 1) (w.alloc (.cells #[.int .u64 k] 49)) := by kernel_rfl
theorem bsrun_U (k : Int) (w : World) : (Instr.buildSlice 144 1 #[(0, .int .u32 k)]).run Try.prog w = .ok (.slice (some ⟨w.heap.size, 0, none⟩) 1 1) (w.alloc (.cells #[.int .u32 k] 142)) := by kernel_rfl
theorem exec_bsD (dst : Option Tmp) (x : Operand) (ty : TypeId) (pos : String) (after : Array Edge) (gd : Option (Nat × Bool)) (ρ : Operand → Value) (w : World) :
    (execOp ρ ⟨dst, .buildSlice 151 1 #[(0, x)], ty, pos, after, gd⟩).run Try.prog w = bs1 151 49 .u64 (ρ x) w := by
  have h0 : (execOp ρ ⟨dst, .buildSlice 151 1 #[(0, x)], ty, pos, after, gd⟩).run Try.prog w = hidBs 151 (ρ x) w := by kernel_rfl
  rw [h0]
  generalize ρ x = v
  unfold bs1
  split
  · split
    · rename_i h; subst h; unfold hidBs; rw [Sem.run_bind, bsrun_D]; rfl
    · rfl
  · rfl
theorem exec_bsU (dst : Option Tmp) (x : Operand) (ty : TypeId) (pos : String) (after : Array Edge) (gd : Option (Nat × Bool)) (ρ : Operand → Value) (w : World) :
    (execOp ρ ⟨dst, .buildSlice 144 1 #[(0, x)], ty, pos, after, gd⟩).run Try.prog w = bs1 144 142 .u32 (ρ x) w := by
  have h0 : (execOp ρ ⟨dst, .buildSlice 144 1 #[(0, x)], ty, pos, after, gd⟩).run Try.prog w = hidBs 144 (ρ x) w := by kernel_rfl
  rw [h0]
  generalize ρ x = v
  unfold bs1
  split
  · split
    · rename_i h; subst h; unfold hidBs; rw [Sem.run_bind, bsrun_U]; rfl
    · rfl
  · rfl
/-- What a store of one number comes to. -/
noncomputable def hidSt (t : TypeId) (a v : Value) (w : World) : Result Next := (do Instr.storeAt t a v; pure Next.skip : Sem Next).run Try.prog w
noncomputable def st1 (t : TypeId) (a v : Value) (w : World) : Result Next :=
  match a with
  | .pointer (some ad) => if v.oneCell' = true then (stored Try.prog w ad v .plain).andThen (fun _ w' => .ok .skip w') else hidSt t a v w
  | _ => hidSt t a v w
theorem st1_D (t : TypeId) (ad : Addr) (x : UInt64) (w : World) : st1 t (.pointer (some ad)) (D x) w = (stored Try.prog w ad (D x) .plain).andThen (fun _ w' => .ok .skip w') := rfl
theorem st1_i (t : TypeId) (ad : Addr) (k : IntKind) (n : Int) (w : World) : st1 t (.pointer (some ad)) (.int k n) w = (stored Try.prog w ad (.int k n) .plain).andThen (fun _ w' => .ok .skip w') := rfl
theorem st1_U (t : TypeId) (ad : Addr) (x : UInt32) (w : World) : st1 t (.pointer (some ad)) (U x) w = (stored Try.prog w ad (U x) .plain).andThen (fun _ w' => .ok .skip w') := rfl
theorem cells_one {v : Value} (h : v.oneCell' = true) : v.cells = #[v] := by cases v <;> first | rfl | (simp [Value.oneCell'] at h)
theorem hidSt_one (t : TypeId) (i : TypeInfo) (hi : Try.prog.info? t = some i) (hs : i.size = 1) (ad : Addr) (v : Value) (h : v.oneCell' = true) (w : World) :
    hidSt t (.pointer (some ad)) v w = (stored Try.prog w ad v .plain).andThen (fun _ w' => .ok .skip w') := by
  have h1 : (Instr.storeAt t (.pointer (some ad)) v).run Try.prog w = stored Try.prog w ad v .plain := by
    have ha : ad.add 0 = ad := by simp [Addr.add]
    have h2 := run_store Try.prog w ad v .plain h
    simp only [Instr.storeAt, Instr.sureAddr, Sem.run_bind, Sem.run_pure, Result.andThen_ok]
    simp [storeVar, sizeOf, typeInfo, hi, hs, cells_one h, storeCells, ha]
    rw [h2]
    rfl
  unfold hidSt
  rw [Sem.run_bind, h1]
  rfl
theorem exec_st (t : TypeId) (hi : (Try.prog.info? t).map (fun i => i.size) = some 1) (dst : Option Tmp) (x y : Operand) (ty : TypeId) (pos : String) (after : Array Edge) (gd : Option (Nat × Bool)) (ρ : Operand → Value) (w : World) :
    (execOp ρ ⟨dst, .store t x y, ty, pos, after, gd⟩).run Try.prog w = st1 t (ρ x) (ρ y) w := by
  have h0 : (execOp ρ ⟨dst, .store t x y, ty, pos, after, gd⟩).run Try.prog w = hidSt t (ρ x) (ρ y) w := rfl
  rw [h0]
  generalize ρ x = a
  generalize ρ y = v
  unfold st1
  obtain ⟨i, hi1, hi2⟩ : ∃ i, Try.prog.info? t = some i ∧ i.size = 1 := by
    simpa using hi
  split
  · split
    · rename_i h; exact hidSt_one t i hi1 hi2 _ _ h w
    · rfl
  · rfl
theorem exec_stD (dst : Option Tmp) (x y : Operand) (ty : TypeId) (pos : String) (after : Array Edge) (gd : Option (Nat × Bool)) (ρ : Operand → Value) (w : World) :
    (execOp ρ ⟨dst, .store 49 x y, ty, pos, after, gd⟩).run Try.prog w = st1 49 (ρ x) (ρ y) w := exec_st _ (by kernel_rfl) _ _ _ _ _ _ _ _ _
theorem exec_stU (dst : Option Tmp) (x y : Operand) (ty : TypeId) (pos : String) (after : Array Edge) (gd : Option (Nat × Bool)) (ρ : Operand → Value) (w : World) :
    (execOp ρ ⟨dst, .store 142 x y, ty, pos, after, gd⟩).run Try.prog w = st1 142 (ρ x) (ρ y) w := exec_st _ (by kernel_rfl) _ _ _ _ _ _ _ _ _
theorem cvD (x : UInt64) (w : World) : (convert 49 142 (D x)).run Try.prog w = .ok (U (UInt32.ofNat x.toNat)) w := by
  have h : IntKind.u32.wrap (x.toNat : Int) = ((UInt32.ofNat x.toNat).toNat : Int) := by rw [wrap_u32, UInt32.toNat_ofNat']
  have hk : Try.prog.intKind 142 = .u32 := by kernel_rfl
  have h2 := run_convert_int (P := Try.prog) (w := w) 49 142 .u64 (x.toNat : Int) (by rw [Try.underlying49]; rfl) (by rw [hk]; exact Try.underlying142)
  rw [hk, h] at h2
  exact h2

theorem root_c (p : UInt64) (cube : Bool) (w : World) : Calls Try.prog 116 #[D p, .bool cube] w fun e w' => e = .returned (U (rootU p cube)) ∧ w = w' := by
  have k1 : Value.int .u64 1 = D 1 := rfl
  have k0 : Value.int .u64 0 = D 0 := rfl
  have cv := cvD
  go_enter Try.func116, Try.ntmps116
  go_wp2
  go_loop [5, 6] (fun v5 v6 => ∃ k : Nat, k ≤ 36 ∧ v6 = .int .i64 (35 - (k : Int)) ∧ v5 = D (rootK p cube k)) (fun _ v6 => (intOf v6 + 1).toNat)
  case atStart => exact ⟨0, by omega, rfl, rfl⟩
  case round =>
    obtain ⟨k, hk, rfl, rfl⟩ := hrel
    by_cases hlt : k < 36
    · obtain ⟨b, hb⟩ : ∃ b : Nat, b = 35 - k := ⟨_, rfl⟩
      have e1 : (35 - (k : Int)) = (b : Int) := by omega
      have hs : rootK p cube (k + 1) = rstep p cube (rootK p cube k) b := by rw [hb]; rfl
      have HS := Lib.hid (And.intro hs hb)
      clear hs hb
      rw [e1]
      clear e1
      have hb0 : (0 : Int) ≤ (b : Int) := by omega
      have hb1 : (b : Int) ≤ 35 := by have := HS.out.2; omega
      obtain ⟨R, hR⟩ : ∃ R, R = rootK p cube k := ⟨_, rfl⟩
      rw [← hR] at HS ⊢
      obtain ⟨N, hN'⟩ : ∃ N, N = R ||| shl64 1 b := ⟨_, rfl⟩
      have hN : rnext R b = N := hN'.symm
      have hN2 := hN'.symm
      clear hN' hR
      cases cube
      ·
        by_cases c1 : rhigh N false < rmost p false
        · have hr : rstep p false R b = N := by unfold rstep; rw [hN, if_pos (.inl c1)]
          have HR := Lib.hid hr
          clear hr
          simp only [rhigh, rlow, rmost, if_true, if_false, Bool.false_eq_true] at c1
          go_wp2_with (go_at_call 121; refine (mul64_c _ _ _).mono ?_; rintro e w' ⟨rfl, rfl⟩)
          exact ⟨⟨k + 1, by omega, by congr 1; have := HS.out.2; omega, by rw [HS.out.1, HR.out]⟩, by simp [intOf]⟩
        · by_cases c2 : rhigh N false = rmost p false
          · by_cases c3 : rlow N false = 0
            · have hr : rstep p false R b = N := by unfold rstep; rw [hN, if_pos (.inr ⟨c2, c3⟩)]
              have HR := Lib.hid hr
              clear hr
              simp only [rhigh, rlow, rmost, if_true, if_false, Bool.false_eq_true] at c1 c2 c3
              go_wp2_with (go_at_call 121; refine (mul64_c _ _ _).mono ?_; rintro e w' ⟨rfl, rfl⟩)
              exact ⟨⟨k + 1, by omega, by congr 1; have := HS.out.2; omega, by rw [HS.out.1, HR.out]⟩, by simp [intOf]⟩
            · have hr : rstep p false R b = R := by unfold rstep; rw [hN, if_neg (fun h => h.elim c1 (fun h => c3 h.2))]
              have HR := Lib.hid hr
              clear hr
              simp only [rhigh, rlow, rmost, if_true, if_false, Bool.false_eq_true] at c1 c2 c3
              go_wp2_with (go_at_call 121; refine (mul64_c _ _ _).mono ?_; rintro e w' ⟨rfl, rfl⟩)
              exact ⟨⟨k + 1, by omega, by congr 1; have := HS.out.2; omega, by rw [HS.out.1, HR.out]⟩, by simp [intOf]⟩
          · have hr : rstep p false R b = R := by unfold rstep; rw [hN, if_neg (fun h => h.elim c1 (fun h => c2 h.1))]
            have HR := Lib.hid hr
            clear hr
            simp only [rhigh, rlow, rmost, if_true, if_false, Bool.false_eq_true] at c1 c2
            go_wp2_with (go_at_call 121; refine (mul64_c _ _ _).mono ?_; rintro e w' ⟨rfl, rfl⟩)
            exact ⟨⟨k + 1, by omega, by congr 1; have := HS.out.2; omega, by rw [HS.out.1, HR.out]⟩, by simp [intOf]⟩
      ·
        by_cases c1 : rhigh N true < rmost p true
        · have hr : rstep p true R b = N := by unfold rstep; rw [hN, if_pos (.inl c1)]
          have HR := Lib.hid hr
          clear hr
          simp only [rhigh, rlow, rmost, if_true, if_false, Bool.false_eq_true] at c1
          go_wp2_with (go_at_call 121; refine (mul64_c _ _ _).mono ?_; rintro e w' ⟨rfl, rfl⟩)
          exact ⟨⟨k + 1, by omega, by congr 1; have := HS.out.2; omega, by rw [HS.out.1, HR.out]⟩, by simp [intOf]⟩
        · by_cases c2 : rhigh N true = rmost p true
          · by_cases c3 : rlow N true = 0
            · have hr : rstep p true R b = N := by unfold rstep; rw [hN, if_pos (.inr ⟨c2, c3⟩)]
              have HR := Lib.hid hr
              clear hr
              simp only [rhigh, rlow, rmost, if_true, if_false, Bool.false_eq_true] at c1 c2 c3
              go_wp2_with (go_at_call 121; refine (mul64_c _ _ _).mono ?_; rintro e w' ⟨rfl, rfl⟩)
              exact ⟨⟨k + 1, by omega, by congr 1; have := HS.out.2; omega, by rw [HS.out.1, HR.out]⟩, by simp [intOf]⟩
            · have hr : rstep p true R b = R := by unfold rstep; rw [hN, if_neg (fun h => h.elim c1 (fun h => c3 h.2))]
              have HR := Lib.hid hr
              clear hr
              simp only [rhigh, rlow, rmost, if_true, if_false, Bool.false_eq_true] at c1 c2 c3
              go_wp2_with (go_at_call 121; refine (mul64_c _ _ _).mono ?_; rintro e w' ⟨rfl, rfl⟩)
              exact ⟨⟨k + 1, by omega, by congr 1; have := HS.out.2; omega, by rw [HS.out.1, HR.out]⟩, by simp [intOf]⟩
          · have hr : rstep p true R b = R := by unfold rstep; rw [hN, if_neg (fun h => h.elim c1 (fun h => c2 h.1))]
            have HR := Lib.hid hr
            clear hr
            simp only [rhigh, rlow, rmost, if_true, if_false, Bool.false_eq_true] at c1 c2
            go_wp2_with (go_at_call 121; refine (mul64_c _ _ _).mono ?_; rintro e w' ⟨rfl, rfl⟩)
            exact ⟨⟨k + 1, by omega, by congr 1; have := HS.out.2; omega, by rw [HS.out.1, HR.out]⟩, by simp [intOf]⟩
    · have hk6 : k = 36 := by omega
      subst hk6
      go_wp2
      go_ret
      exact ⟨rfl, rfl⟩
end Go.Proofs.Ytegmimnhkohaoaa
/-
  The contracts of sha.primes and sha.roots, and of slices.IndexFunc and ContainsFunc as primes calls them. Condition: at most 64 of them.
-/
namespace Go.Proofs.Ytegmimnhkohaoaa
open Go.RowKit Go.Kx
set_option linter.unusedVariables false
set_option linter.unusedSimpArgs false
attribute [local go_sem ↓] U_add U_mul U_xor U_or U_and U_not U_shl U_shr U_guard1 U_guard2
attribute [local go_sem ↓] D_add D_mul D_xor D_or D_and D_not D_sub D_lss D_eql D_neq D_shl D_shr D_guard1 D_guard2 D_store U_store exec_bsD exec_bsU
attribute [local go_sem ↓] exec_stD exec_stU
attribute [local go_sem] bs1_D bs1_U st1_D st1_U st1_i

/-- A variable of one cell. -/
def Var (w : World) (b t : Nat) (v : Value) : Prop := w.heap[b]? = some (.cells #[v] t (0, 0))
theorem Var.c {w : World} {b t : Nat} {v : Value} (h : Var w b t v) : w.cell? ⟨b, 0, none⟩ = some v := by unfold Var at h; simp [World.cell?, h]
theorem Var.fr {w : World} {b t : Nat} {v : Value} (h : Var w b t v) : w.frozen? ⟨b, 0, none⟩ = false := by unfold Var at h; simp [World.frozen?, h]
theorem Var.lt {w : World} {b t : Nat} {v : Value} (h : Var w b t v) : b < w.heap.size := (Array.getElem?_eq_some_iff.1 h).1
theorem Var.only {w w' : World} {q : Nat → Prop} {b t : Nat} {v : Value} (h : Var w b t v) (ho : Only q w w') (hd : ¬ q b) : Var w' b t v := (ho.block b h.lt hd).trans h
theorem Var.below {w w' : World} {b t : Nat} {v : Value} (h : Var w b t v) (ho : Below w.heap.size w w') : Var w' b t v := (ho.block b h.lt).trans h
theorem Var.new (w : World) (t : Nat) (v : Value) : Var (w.alloc (.cells #[v] t)) w.heap.size t v := heap_alloc_new w _

theorem divides_c (q p : UInt64) (B : Nat) (w : World) (hq : q ≠ 0) (hc : w.cell? ⟨B, 0, none⟩ = some (D p)) :
    Calls Try.prog 120 #[D q, .pointer (some ⟨B, 0, none⟩)] w fun e w' => e = .returned (.bool (decide (p % q = 0))) ∧ w = w' := by
  have hr := fun (w : World) => D_rem (P := Try.prog) (w := w) (t := 49) p q hq
  have k0 : Value.int .u64 0 = D 0 := rfl
  go_enter Try.func120, Try.ntmps120
  go_wp2
  go_ret
  exact ⟨rfl, rfl⟩

/-- Numbers that lie in a row. -/
def NumsAt (w : World) (p : Option Addr) (qs : List UInt64) : Prop := ∀ i (h : i < qs.length), ∃ g o, p = some ⟨g, o, none⟩ ∧ w.cell? ⟨g, o + i, none⟩ = some (D qs[i])

def IdxR (w : World) (qs : List UInt64) (p : UInt64) (e : Ending) (w' : World) : Prop := ∃ r : Int, e = .returned (.int .i64 r) ∧ decide (0 ≤ r) = qs.any (fun q => decide (p % q = 0)) ∧ w = w'

theorem index_c (a : Option Addr) (n c : Nat) (qs : List UInt64) (p : UInt64) (B : Nat) (w : World) (hN : NumsAt w a qs) (hl : qs.length = n) (hm : n ≤ 1000) (h0 : ∀ q ∈ qs, q ≠ 0) (hc : w.cell? ⟨B, 0, none⟩ = some (D p)) :
    Calls Try.prog 123 #[.slice a n c, .func (.func 120) #[] #[.pointer (some ⟨B, 0, none⟩)]] w (IdxR w qs p) := by
  subst hl
  go_enter Try.func123, Try.ntmps123
  go_wp2
  go_loop [8] (fun v8 => ∃ i : Nat, v8 = .int .i64 (i : Int) ∧ i ≤ qs.length ∧ (qs.take i).any (fun q => decide (p % q = 0)) = false) (fun v8 => qs.length - (intOf v8).toNat)
  case atStart => exact ⟨0, rfl, by omega, rfl⟩
  case round =>
    obtain ⟨i, rfl, hi, hany⟩ := hrel
    have HA := Lib.hid hany
    clear hany
    by_cases hlt : i < qs.length
    · obtain ⟨g, o, rfl, hcell⟩ := hN i hlt
      have hlI : (i : Int) < (qs.length : Int) := by omega
      have hq0 : qs[i] ≠ 0 := h0 _ (List.getElem_mem hlt)
      have hts : qs.take (i + 1) = qs.take i ++ [qs[i]] := List.take_succ_eq_append_getElem hlt
      have HT := Lib.hid hts
      obtain ⟨q, hq⟩ : ∃ q, q = qs[i] := ⟨_, rfl⟩
      rw [← hq] at hcell hq0
      have HQ := Lib.hid hq
      clear hts hq
      have HD := Lib.hid h0
      clear h0 hN
      by_cases hd : p % q = 0
      · have hb : decide (p % q = 0) = true := decide_eq_true hd
        go_wp2_with (go_at_call 120; refine (divides_c q p B _ hq0 hc).mono ?_; rintro e w' ⟨rfl, rfl⟩)
        go_ret
        refine ⟨(i : Int), rfl, ?_, rfl⟩
        have hmem : q ∈ qs := by rw [HQ.out]; exact List.getElem_mem hlt
        rw [decide_eq_true (by omega : (0 : Int) ≤ (i : Int))]
        exact (List.any_eq_true.2 ⟨q, hmem, hb⟩).symm
      · have hb : decide (p % q = 0) = false := decide_eq_false hd
        go_wp2_with (go_at_call 120; refine (divides_c q p B _ hq0 hc).mono ?_; rintro e w' ⟨rfl, rfl⟩)
        exact ⟨⟨i + 1, by simp, by omega, by rw [HT.out, List.any_append, HA.out, ← HQ.out]; simp [hd]⟩, by simp [intOf]; omega⟩
    · have hlI : ¬ (i : Int) < (qs.length : Int) := by omega
      go_wp2
      go_ret
      have : qs.take i = qs := List.take_of_length_le (by omega)
      exact ⟨-1, rfl, by rw [← this, HA.out]; rfl, rfl⟩

theorem contains_c (a : Option Addr) (n c : Nat) (qs : List UInt64) (p : UInt64) (B : Nat) (w : World) (hN : NumsAt w a qs) (hl : qs.length = n) (hm : n ≤ 1000) (h0 : ∀ q ∈ qs, q ≠ 0) (hc : w.cell? ⟨B, 0, none⟩ = some (D p)) :
    Calls Try.prog 119 #[.slice a n c, .func (.func 120) #[] #[.pointer (some ⟨B, 0, none⟩)]] w (fun e w' => e = .returned (.bool (qs.any (fun q => decide (p % q = 0)))) ∧ w = w') := by
  obtain ⟨bb, hbb⟩ : ∃ bb, bb = qs.any (fun q => decide (p % q = 0)) := ⟨_, rfl⟩
  rw [← hbb]
  have HB := Lib.hid hbb
  clear hbb
  have H := Lib.hid (index_c a n c qs p B w hN hl hm h0 hc)
  clear hN hl hm h0 hc
  go_enter Try.func119, Try.ntmps119
  go_wp2_with (go_at_call 123; refine H.out.mono ?_; rintro e w' ⟨r, rfl, hr, rfl⟩; rw [← HB.out] at hr)
  go_ret
  exact ⟨by first | rfl | (rw [← hr]), rfl⟩

/-! ### primes -/
/-- The primes from 2 on, of so many numbers. -/
def pr : Nat → List UInt64
  | 0 => []
  | k + 1 => if (pr k).any (fun q => decide (UInt64.ofNat (k + 2) % q = 0)) then pr k else pr k ++ [UInt64.ofNat (k + 2)]
theorem pr_succ (k : Nat) : pr (k + 1) = if (pr k).any (fun q => decide (UInt64.ofNat (k + 2) % q = 0)) then pr k else pr k ++ [UInt64.ofNat (k + 2)] := rfl
theorem pr_prefix (k j : Nat) : ∃ t, pr (k + j) = pr k ++ t := by
  induction j with
  | zero => exact ⟨[], by simp⟩
  | succ j ih =>
    obtain ⟨t, ht⟩ := ih
    rw [show k + (j + 1) = (k + j) + 1 by omega, pr_succ]
    split
    · exact ⟨t, ht⟩
    · exact ⟨t ++ [_], by rw [ht, List.append_assoc]⟩
theorem pr_len : (pr 310).length = 64 := by decide +kernel
/-- The first so many. -/
def primesL (n : Nat) : List UInt64 := (pr 310).take n
theorem pr_take {k n : Nat} (hk : k ≤ 310) (h : (pr k).length = n) : pr k = primesL n := by
  obtain ⟨t, ht⟩ := pr_prefix k (310 - k)
  rw [show k + (310 - k) = 310 by omega] at ht
  unfold primesL
  rw [ht, ← h, List.take_left']
  rfl
theorem pr_bound {k n : Nat} (hn : n ≤ 64) (h : (pr k).length < n) : k < 310 := by
  apply Nat.lt_of_not_le
  intro hk
  obtain ⟨t, ht⟩ := pr_prefix 310 (k - 310)
  rw [show 310 + (k - 310) = k by omega] at ht
  rw [ht, List.length_append, pr_len] at h
  omega
theorem pr_ne (k : Nat) (hk : k ≤ 1000) : ∀ q ∈ pr k, q ≠ 0 := by
  induction k with
  | zero => intro q hq; cases hq
  | succ k ih =>
    intro q hq
    rw [pr_succ] at hq
    split at hq
    · exact ih (by omega) q hq
    · rw [List.mem_append, List.mem_singleton] at hq
      rcases hq with hq | rfl
      · exact ih (by omega) q hq
      · intro h
        have := congrArg UInt64.toNat h
        rw [UInt64.toNat_ofNat', Nat.mod_eq_of_lt (by omega)] at this
        simp at this

theorem Try.infoD : (Try.prog.info? 49).map (fun i => (i.zero, i.size, i.bytes)) = some (some (.int .u64 0), 1, 8) := by kernel_rfl
theorem Try.infoU : (Try.prog.info? 142).map (fun i => (i.zero, i.size, i.bytes)) = some (some (.int .u32 0), 1, 4) := by kernel_rfl

/-- A row of numbers of the call's own. -/
def RowD (w : World) (g : Nat) (v : Value) (l : List UInt64) : Prop := Row w 49 1 g v l.length (l.map D)
def RowU (w : World) (g : Nat) (v : Value) (l : List UInt32) : Prop := Row w 142 1 g v l.length (l.map U)
theorem RowD.nums {w : World} {g : Nat} {p : Option Addr} {n c : Nat} {l : List UInt64} (h : RowD w g (.slice p n c) l) : l.length = n ∧ NumsAt w p l ∧ (0 < n → g < w.heap.size) := by
  obtain ⟨p', c', hv, h1, h2⟩ := Row.form h
  cases hv
  refine ⟨rfl, fun i hi => ?_, fun h => (h1 h).2⟩
  obtain ⟨rfl, _⟩ := h1 (by omega)
  exact ⟨g, 0, rfl, by rw [Nat.zero_add]; exact h2 i (D l[i]) (by simp [hi])⟩

def PrRel (w : World) (n : Nat) (v3 v4 : Value) (wr : World) : Prop := ∃ k g b, v4 = .pointer (some ⟨b, 0, none⟩) ∧ (pr k).length ≤ n ∧ k ≤ 310 ∧ Var wr b 49 (D (UInt64.ofNat (k + 2))) ∧ RowD wr g v3 (pr k) ∧ g ≠ b ∧ w.heap.size ≤ g ∧ w.heap.size ≤ b ∧ Below w.heap.size w wr
def PrMeas (v3 v4 : Value) (wr : World) : Nat := match v4 with
  | .pointer (some ⟨b, 0, none⟩) => match wr.cell? ⟨b, 0, none⟩ with
    | some (.int .u64 n) => 400 - n.toNat
    | _ => 0
  | _ => 0
theorem PrMeas_at {v3 : Value} {b k : Nat} {wr : World} (hk : k ≤ 310) (h : Var wr b 49 (D (UInt64.ofNat (k + 2)))) : PrMeas v3 (.pointer (some ⟨b, 0, none⟩)) wr = 398 - k := by
  have e : UInt64.toNat (UInt64.ofNat (k + 2)) = k + 2 := by rw [UInt64.toNat_ofNat', Nat.mod_eq_of_lt (by omega)]
  unfold PrMeas
  simp only [h.c, D, e]
  omega

def PrR (w : World) (n : Nat) (e : Ending) (w' : World) : Prop := ∃ g p c, e = .returned (.slice p n c) ∧ RowD w' g (.slice p n c) (primesL n) ∧ w.heap.size ≤ g ∧ Below w.heap.size w w'

set_option maxHeartbeats 2000000 in
theorem primes_c (n : Nat) (w : World) (hn : 1 ≤ n ∧ n ≤ 64) : Calls Try.prog 115 #[.int .i64 (n : Int)] w (PrR w n) := by
  have k1 : Value.int .u64 1 = D 1 := rfl
  go_enter Try.func115, Try.ntmps115
  go_wp2
  go_loopw [3, 4] (fun v3 v4 wr => PrRel w n v3 v4 wr) (fun v3 v4 wr => PrMeas v3 v4 wr)
  case atStart =>
    exact ⟨0, w.heap.size + 1, w.heap.size, rfl, by simp [pr], by omega, Var.new _ _ _, Row.nil _ _ _ _, by omega, by omega, by omega, (Below.refl _ _).alloc (Nat.le_refl _) _⟩
  case round =>
    obtain ⟨k, g, b, rfl, hl, hk, hV, hO, hgb, hg, hb, hB⟩ := hrel
    have hM := PrMeas_at (v3 := u3) hk hV
    obtain ⟨p3, c3, rfl, hf1, hf2⟩ := Row.form hO
    obtain ⟨hN1, hN2, hN3⟩ := hO.nums
    obtain ⟨P, hP⟩ : ∃ P, P = UInt64.ofNat (k + 2) := ⟨_, rfl⟩
    have hP1 : UInt64.ofNat (k + 1 + 2) = P + 1 := by
      apply UInt64.toNat_inj.1
      rw [hP, UInt64.toNat_add, UInt64.toNat_ofNat', UInt64.toNat_ofNat']
      show _ = ((k + 2) % 2 ^ 64 + 1) % 2 ^ 64
      omega
    rw [← hP] at hV
    obtain ⟨L, hL⟩ : ∃ L, L = (pr k).length := ⟨_, rfl⟩
    rw [← hL] at hl hM hO hN3 hf1 ⊢
    have hN1' := hN1
    have HP := Lib.hid (And.intro hP (And.intro hP1 hL))
    have hR : Row wr 49 1 g (.slice p3 L c3) L ((pr k).map D) := by have h := hO; unfold RowD at h; rw [← hL] at h; exact h
    have HR := Lib.hid hR
    have HH := Lib.hid (And.intro hV (And.intro hO (And.intro hB (And.intro hM hN2))))
    have cb := hV.c
    have hbl := hV.lt
    have hne := pr_ne k (by omega)
    have HNE := Lib.hid hne
    have hsz := hB.size
    have hL1 : L ≤ 1000 := by omega
    clear hP hP1 hV hO hB hM hf1 hf2 hN2 hne hN1 hL hR
    by_cases hlt : L < n
    · have hlI : (L : Int) < (n : Int) := by omega
      have hk2 : k < 310 := pr_bound hn.2 (by rw [← HP.out.2.2]; exact hlt)
      have cont := fun (w' : World) (hc : w'.cell? ⟨b, 0, none⟩ = some (D P)) (hN : NumsAt w' p3 (pr k)) => contains_c p3 L c3 (pr k) P b w' hN HP.out.2.2.symm hL1 HNE.out hc
      have CT := Lib.hid cont
      clear cont
      obtain ⟨bb, hbb⟩ : ∃ bb, bb = (pr k).any (fun q => decide (P % q = 0)) := ⟨_, rfl⟩
      rw [← hbb] at CT
      have HBB := Lib.hid hbb
      clear hbb
      cases bb
      · go_wp2_with (first
          | (go_at_call 119; refine (CT.out _ cb HH.out.2.2.2.2).mono ?_; rintro e w' ⟨rfl, rfl⟩)
          | (at_builtin; refine wpList_append_row rfl _ _ 151 rfl 49 (.int .u64 0) 1 8 Try.underlying151 Try.infoD rfl (by decide) g (.slice p3 L c3) L ((pr k).map D) rfl (Row.only HR.out ((Only.refl (fun _ => False) wr).alloc _) (fun h => h)) ⟨wr.heap.size, 0, none⟩ 1 1 [D P] rfl rfl (cell_one wr _ _) (by simp [Value.oneCell', D]) (by unfold maxLen; omega) (by omega) (wr.heap.size + 1) (by simp) ?_; intro g' v' w1 hrow hg' hO1; have hV1 : Var w1 b 49 (D P) := (HH.out.1.below ((Below.refl _ _).alloc (Nat.le_refl _) (.cells #[D P] 49))).only hO1 (by omega); have cb1 := hV1.c))
        have hs1 := hO1.size
        simp only [World.size_alloc] at hs1
        have hpr : pr (k + 1) = pr k ++ [P] := by rw [pr_succ, ← HP.out.1, ← HBB.out]; rfl
        obtain ⟨q, c', hv', z1, z2⟩ := Row.form hrow
        have hgl := (z1 (by omega)).2
        have hB1 : Below w.heap.size w w1 := below_only (HH.out.2.2.1.alloc hsz _) (by simp; omega) hO1 (by intro x hx e; omega)
        have hVn := Var.new w1 49 (D (UInt64.ofNat (k + 1 + 2)))
        have hm1 := PrMeas_at (v3 := v') (by omega) hVn
        rw [HP.out.2.1] at hVn hm1
        refine ⟨⟨k + 1, g', w1.heap.size, rfl, by rw [hpr, List.length_append, ← HP.out.2.2]; exact hlt, by omega, by rw [HP.out.2.1]; exact hVn, ?_, by omega, by omega, by omega, hB1.alloc hB1.size _⟩, by rw [hm1, HH.out.2.2.2.1]; omega⟩
        unfold RowD
        rw [hpr, List.length_append, List.map_append, ← HP.out.2.2]
        exact Row.only hrow ((Only.refl (fun _ => False) w1).alloc _) (fun h => h)
      · go_wp2_with (go_at_call 119; refine (CT.out _ cb HH.out.2.2.2.2).mono ?_; rintro e w' ⟨rfl, rfl⟩)
        have hpr : pr (k + 1) = pr k := by rw [pr_succ, ← HP.out.1, ← HBB.out]; rfl
        have hVn := Var.new wr 49 (D (UInt64.ofNat (k + 1 + 2)))
        have hm1 := PrMeas_at (v3 := .slice p3 L c3) (by omega) hVn
        rw [HP.out.2.1] at hVn hm1
        by_cases hL0 : 0 < L
        · refine ⟨⟨k + 1, g, wr.heap.size, rfl, by rw [hpr, ← HP.out.2.2]; exact hl, by omega, by rw [HP.out.2.1]; exact hVn, ?_, by have := hN3 hL0; omega, by omega, by omega, HH.out.2.2.1.alloc hsz _⟩, by rw [hm1, HH.out.2.2.2.1]; omega⟩
          rw [hpr]
          exact Row.only HH.out.2.1 ((Only.refl (fun _ => False) wr).alloc _) (fun h => h)
        · exfalso
          have h0 : pr k = [] := List.eq_nil_of_length_eq_zero (by rw [← HP.out.2.2]; omega)
          have := HBB.out
          rw [h0] at this
          cases this
    · have hlI : ¬ (L : Int) < (n : Int) := by omega
      obtain rfl : L = n := by omega
      go_wp2
      go_ret
      exact ⟨g, p3, c3, rfl, by rw [← pr_take hk HP.out.2.2.symm]; exact HH.out.2.1, hg, HH.out.2.2.1⟩

/-! ### roots -/
def rootsL (n : Nat) (cube : Bool) : List UInt32 := (primesL n).map fun p => rootU p cube
theorem primesL_len {n : Nat} (h : n ≤ 64) : (primesL n).length = n := by unfold primesL; rw [List.length_take, pr_len]; omega
theorem NumsAt.below {w w' : World} {p : Option Addr} {qs : List UInt64} (h : NumsAt w p qs) (hb : Below w.heap.size w w') : NumsAt w' p qs := by
  intro i hi
  obtain ⟨g, o, h1, h2⟩ := h i hi
  exact ⟨g, o, h1, (hb.cell (p := ⟨g, o + i, none⟩) (World.block_lt_of_cell? _ _ h2)).trans h2⟩
def RoRel (w1 : World) (n : Nat) (cube : Bool) (v5 v11 : Value) (wr : World) : Prop := ∃ (i g : Nat), v11 = .int .i64 (i : Int) ∧ i ≤ n ∧ Row wr 142 1 g v5 i (((rootsL n cube).take i).map U) ∧ w1.heap.size ≤ g ∧ Below w1.heap.size w1 wr
def RoR (w : World) (n : Nat) (cube : Bool) (e : Ending) (w' : World) : Prop := ∃ g c, e = .returned (.slice (some ⟨g, 0, none⟩) n c) ∧ Row w' 142 1 g (.slice (some ⟨g, 0, none⟩) n c) n ((rootsL n cube).map U) ∧ w.heap.size ≤ g ∧ g < w'.heap.size ∧ Below w.heap.size w w'

set_option maxHeartbeats 2000000 in
theorem roots_c (n : Nat) (cube : Bool) (w : World) (hn : 1 ≤ n ∧ n ≤ 64) : Calls Try.prog 106 #[.int .i64 (n : Int), .bool cube] w (RoR w n cube) := by
  have hpl := primesL_len hn.2
  have HPL := Lib.hid hpl
  have HRL := Lib.hid (show (rootsL n cube).length = n by unfold rootsL; rw [List.length_map]; exact hpl)
  clear hpl
  go_enter Try.func106, Try.ntmps106
  go_wp2_with (go_at_call 115; refine (primes_c n _ hn).mono ?_; rintro e w1 ⟨g0, p0, c0, rfl, hrow, hg0, hB⟩; have HN := Lib.hid hrow.nums.2.1; have HB := Lib.hid hB; clear hrow hB)
  go_loopw [5, 11] (fun v5 v11 wr => RoRel w1 n cube v5 v11 wr) (fun _ v11 _ => n - (intOf v11).toNat)
  case atStart => exact ⟨0, w1.heap.size, rfl, by omega, Row.nil _ _ _ _, by omega, Below.refl _ _⟩
  case round =>
    obtain ⟨i, g, rfl, hi, hO, hg, hB1⟩ := hrel
    have HO := Lib.hid hO
    have HB1 := Lib.hid hB1
    clear hO hB1
    by_cases hlt : i < n
    · have hlI : (i : Int) < (n : Int) := by omega
      have hip : i < (primesL n).length := by rw [HPL.out]; exact hlt
      obtain ⟨gq, oq, rfl, hcell⟩ := (HN.out.below HB1.out) i hip
      have htk : (rootsL n cube).take (i + 1) = (rootsL n cube).take i ++ [rootU ((primesL n)[i]'hip) cube] := by
        have hir : i < (rootsL n cube).length := by rw [HRL.out]; exact hlt
        rw [List.take_succ_eq_append_getElem hir]
        simp [rootsL]
      obtain ⟨P, hP⟩ : ∃ P, P = (primesL n)[i]'hip := ⟨_, rfl⟩
      rw [← hP] at htk hcell
      have HT := Lib.hid htk
      clear htk hP hip
      go_wp2_with (first
        | (go_at_call 116; refine (root_c P cube _).mono ?_; rintro e w' ⟨rfl, rfl⟩)
        | (at_builtin; refine wpList_append_row rfl _ _ 144 rfl 142 (.int .u32 0) 1 4 Try.underlying144 Try.infoU rfl (by decide) g _ i (((rootsL n cube).take i).map U) rfl (Row.only HO.out ((Only.refl (fun _ => False) wr).alloc _) (fun h => h)) ⟨wr.heap.size, 0, none⟩ 1 1 [U (rootU P cube)] rfl rfl (cell_one wr _ _) (by simp [Value.oneCell', U]) (by unfold maxLen; omega) (by omega) (wr.heap.size + 1) (by simp) ?_; intro g' v' w2 hrow hg' hO1))
      have hs1 := hO1.size
      have hsz := HB1.out.size
      simp only [World.size_alloc] at hs1
      refine ⟨⟨i + 1, g', by simp, by omega, by rw [HT.out, List.map_append]; exact hrow, by omega, below_only (HB1.out.alloc hsz _) (by simp; omega) hO1 (by intro x hx e; omega)⟩, by simp [intOf]; omega⟩
    · have hlI : ¬ (i : Int) < (n : Int) := by omega
      obtain rfl : i = n := by omega
      obtain ⟨q, c', hv', z1, z2⟩ := Row.form HO.out
      obtain ⟨rfl, hgl⟩ := z1 (by omega)
      subst hv'
      go_wp2
      go_ret
      refine ⟨g, c', rfl, ?_, by have := HB.out.size; omega, hgl, HB.out.trans (HB1.out.mono HB.out.size)⟩
      have ht : (rootsL i cube).take i = rootsL i cube := List.take_of_length_le (by rw [HRL.out]; omega)
      have h := HO.out
      rw [ht] at h
      exact h
end Go.Proofs.Ytegmimnhkohaoaa
/-
  The contract of sha.padded. Condition: at most 2 to the 47th bytes, less two thousand.
-/
namespace Go.Proofs.Ytegmimnhkohaoaa
open Go.RowKit Go.Kx
set_option linter.unusedVariables false
set_option linter.unusedSimpArgs false
attribute [local go_sem ↓] D_add D_mul D_or D_and D_sub D_shl

/-- So many noughts are put behind. -/
def padZ (L : Nat) : Nat := (119 - L % 64) % 64
def padL (b : List UInt8) : List UInt8 := (b ++ [128]) ++ List.replicate (padZ b.length) 0 ++ be (8 * b.length) 8
theorem padZ_end (L : Nat) : (L + 1 + padZ L) % 64 = 56 := by unfold padZ; omega
theorem padZ_not {L k : Nat} (h : k < padZ L) : (L + 1 + k) % 64 ≠ 56 := by unfold padZ at h; omega
theorem padZ_lt (L : Nat) : padZ L < 64 := by unfold padZ; omega
theorem padL_len (b : List UInt8) : (padL b).length % 64 = 0 ∧ (padL b).length ≤ b.length + 73 := by
  have h1 := padZ_end b.length
  have h2 := padZ_lt b.length
  unfold padL
  simp only [List.length_append, List.length_replicate, be_length, List.length_cons, List.length_nil]
  omega

def PadR (w : World) (X : List UInt8) (e : Ending) (w' : World) : Prop := ∃ g n c, e = .returned (.slice (some ⟨g, 0, none⟩) n c) ∧ X.length = n ∧ Own w' g (.slice (some ⟨g, 0, none⟩) n c) X ∧ w.heap.size ≤ g ∧ g < w'.heap.size ∧ n ≤ c ∧ c ≤ maxLen ∧ Below w.heap.size w w'

def PadA (w : World) (b : List UInt8) (v3 : Value) (wr : World) : Prop := ∃ (k g m c : Nat), v3 = .slice (some ⟨g, 0, none⟩) m c ∧ m = b.length + 1 + k ∧ k ≤ padZ b.length ∧ Own wr g (.slice (some ⟨g, 0, none⟩) m c) ((b ++ [128]) ++ List.replicate k 0) ∧ w.heap.size ≤ g ∧ g < wr.heap.size ∧ Below w.heap.size w wr
def PadM (b : List UInt8) (v3 : Value) : Nat := match v3 with
  | .slice _ n _ => b.length + 100 - n
  | _ => 0

/-- The lowest byte. -/
def cut8 (x : UInt64) : UInt8 := UInt8.ofNat x.toNat
theorem cvD8 (x : UInt64) (w : World) : (convert 49 5 (D x)).run Try.prog w = .ok (.int .u8 ((cut8 x).toNat : Int)) w := by
  unfold cut8
  have hk : Try.prog.intKind 5 = .u8 := by kernel_rfl
  have h2 := run_convert_int (P := Try.prog) (w := w) 49 5 .u64 (x.toNat : Int) (by rw [Try.underlying49]; rfl) (by rw [hk]; exact Try.underlying5)
  have h : IntKind.u8.wrap (x.toNat : Int) = ((UInt8.ofNat x.toNat).toNat : Int) := by
    rw [UInt8.toNat_ofNat']
    unfold IntKind.wrap
    simp [IntKind.bits, IntKind.signed]
  rw [hk, h] at h2
  exact h2
def PadB (w : World) (b : List UInt8) (v3 v5 : Value) (wr : World) : Prop := ∃ (i : Nat) (z : Int) (g m c : Nat) (dn : List UInt8), v3 = .slice (some ⟨g, 0, none⟩) m c ∧ v5 = .int .i64 z ∧ i ≤ 8 ∧ z = (i : Int) - 1 ∧ ((b ++ [128]) ++ List.replicate (padZ b.length) 0 ++ dn).length = m ∧
  Own wr g (.slice (some ⟨g, 0, none⟩) m c) ((b ++ [128]) ++ List.replicate (padZ b.length) 0 ++ dn) ∧ dn ++ be (8 * b.length) i = be (8 * b.length) 8 ∧ w.heap.size ≤ g ∧ g < wr.heap.size ∧ Below w.heap.size w wr

set_option maxHeartbeats 4000000 in
set_option maxRecDepth 10000 in
theorem padded_c (S : Nat → Prop) (p : Option Addr) (n c : Nat) (b : List UInt8) (w : World) (hR : Rd w S p b) (hp : p = none → c = 0) (hl : b.length + 2000 ≤ 140737488355328) (hn : b.length = n) :
    Calls Try.prog 107 #[.slice p n c] w (PadR w (padL b)) := by
  subst hn
  have HR := Lib.hid (And.intro hR hp)
  clear hR hp
  go_enter Try.func107, Try.ntmps107
  go_wp2_with (first
    | (at_builtin; have hq := HO1.out.1; refine wpList_append_byte rfl _ _ 23 rfl Try.underlying23 Try.info5 g1 v1 b rfl hq 128 128 rfl rfl (by omega) ?_; intro g2 c2 w2 ho2 hg2 hl2 hc2 hm2 hO2; clear hq)
    | (at_builtin; refine wpList_append_bytes _ rfl _ _ 23 rfl Try.underlying23 Try.info5 w.heap.size _ [] rfl (Own.new w) S _ _ _ b rfl rfl HR.out.2 (HR.out.1.below ((Below.refl _ _).alloc (Nat.le_refl _) (.cells #[] 5))) (by simp; omega) ?_; intro g1 v1 w1 ho1 hg1 hO1 hnil1; have HO1 := Lib.hid (And.intro ho1 (And.intro hO1 hg1)); clear hnil1 ho1 hO1 hg1))
  have hz1 := HO1.out.2.1.size
  simp only [World.size_alloc] at hz1
  have hg1 := HO1.out.2.2
  simp only [World.size_alloc] at hg1
  have hB1 : Below w.heap.size w w1 := below_only ((Below.refl _ _).alloc (Nat.le_refl _) _) (by simp) HO1.out.2.1 (by intro x hx e; omega)
  have hB2 : Below w.heap.size w w2 := app_below hB1 (by omega) hB1.size hO2
  have HOB := Lib.hid (And.intro ho2 hB2)
  have hg2w : w.heap.size ≤ g2 := by omega
  clear hB1 hB2 ho2 hO2 hg1 hg2
  go_loopw [3] (fun v3 wr => PadA w b v3 wr) (fun v3 _ => PadM b v3)
  case atStart => exact ⟨0, g2, _, c2, rfl, rfl, by omega, by simpa using HOB.out.1, hg2w, hl2, HOB.out.2⟩
  case round =>
    obtain ⟨k, g, m, c3, rfl, hmv, hk, hO, hg, hgl, hB⟩ := hrel
    have hz := padZ_lt b.length
    have HO := Lib.hid hO
    have HB := Lib.hid hB
    have HM := Lib.hid hmv
    have hm0 : 0 < m := by omega
    have hmb : m ≤ b.length + 64 := by omega
    have hsz := hB.size
    clear hO hB
    have hmi : (0 : Int) ≤ (m : Int) := by omega
    by_cases hkz : k < padZ b.length
    · have hne := padZ_not hkz
      have hne2 : ¬ ((m : Int) % 64 = 56) := by omega
      have hrep : b ++ [128] ++ List.replicate (k + 1) 0 = (b ++ [128] ++ List.replicate k 0) ++ [0] := by rw [List.replicate_succ', ← List.append_assoc]
      have HREP := Lib.hid hrep
      have hxl : (b ++ [128] ++ List.replicate k (0 : UInt8)).length = m := by simp; omega
      have HXL := Lib.hid hxl
      clear hmv hrep hxl
      go_wp2_with (at_builtin; refine wpList_append_byte rfl _ _ 23 rfl Try.underlying23 Try.info5 g _ (b ++ [128] ++ List.replicate k 0) rfl HO.out 0 0 rfl rfl (by rw [HXL.out]; omega) ?_; rw [HXL.out]; intro g4 c4 w4 ho4 hg4 hl4 hc4 hm4 hO4)
      refine ⟨⟨k + 1, g4, _, c4, rfl, by have := HM.out; omega, by omega, by rw [HREP.out]; exact ho4, by omega, hl4, app_below HB.out hg hsz hO4⟩, ?_⟩
      show b.length + 100 - (m + 1) < b.length + 100 - m
      omega
    · obtain rfl : k = padZ b.length := by omega
      have hend := padZ_end b.length
      have he2 : (m : Int) % 64 = 56 := by omega
      have hlb : (b.length : Int) ≤ 140737488355328 := by omega
      clear hmv hend
      go_wp2
      obtain ⟨X, hX⟩ : ∃ X, X = UInt64.ofNat (8 * b.length) := ⟨_, rfl⟩
      have hXn : X.toNat = 8 * b.length := by rw [hX, UInt64.toNat_ofNat', Nat.mod_eq_of_lt (by omega)]
      have hXD : Value.int .u64 (8 * (b.length : Int)) = D X := by unfold D; rw [hXn]; congr 1
      rw [hXD]
      have HX := Lib.hid hXn
      have cv := cvD8
      clear hX hXn hXD he2
      go_loopw [3, 5] (fun v3 v5 wr => PadB w b v3 v5 wr) (fun _ v5 _ => (intOf v5 + 1).toNat)
      case atStart => exact ⟨8, 7, g, m, c3, [], rfl, rfl, by omega, by omega, by have := HM.out; simp; omega, by simpa using HO.out, by simp, hg, hgl, HB.out⟩
      case round =>
        clear hgl hg hsz hm0 hmb hmi hkz hk
        obtain ⟨i, z, g, m, c, dn, rfl, rfl, hi, hz, hml, hO, hdn, hg, hgl, hB⟩ := hrel
        have hXL : (b ++ [128] ++ List.replicate (padZ b.length) (0 : UInt8)).length ≤ b.length + 64 := by simp; omega
        have hdl : dn.length + i = 8 := by
          have := congrArg List.length hdn
          rw [List.length_append, be_length, be_length] at this
          exact this
        have HO2 := Lib.hid (And.intro hO (And.intro hdn (And.intro hB hml)))
        have hm1 : m ≤ b.length + 100 := by rw [← hml, List.length_append]; omega
        have hszr := hB.size
        have HDL := Lib.hid hdl
        clear hO hdn hB hml hdl hXL
        by_cases h0 : i = 0
        · subst h0
          obtain rfl : z = -1 := by omega
          clear hz hi
          obtain ⟨c', hc'⟩ := And.intro HO2.out.1.form HDL.out
          obtain ⟨p5, c5, hv5, y1, y2, y3, y4, y5⟩ := HO2.out.1.form
          have e5 : c5 = c := by simp at hv5; exact hv5.2.2.symm
          subst e5
          have HV := Lib.hid (And.intro y1 (And.intro y2 hv5))
          clear hv5 y3 y4 y5 y1 y2
          clear c' hc'
          go_wp2
          go_ret
          have hd : dn = be (8 * b.length) 8 := by have := HO2.out.2.1; simpa [be] using this
          subst hd
          exact ⟨g, m, c5, rfl, HO2.out.2.2.2, HO2.out.1, hg, hgl, by rw [← HO2.out.2.2.2]; exact HV.out.1, HV.out.2.1, HO2.out.2.2.1⟩
        · obtain ⟨j, rfl⟩ : ∃ j, i = j + 1 := ⟨i - 1, by omega⟩
          obtain rfl : z = (j : Int) := by omega
          have hj0 : (0 : Int) ≤ (j : Int) := by omega
          have hj7 : (j : Int) ≤ 7 := by omega
          have hsh := fun w => D_shr (P := Try.prog) (w := w) (t := 49) X .i64 (8 * (j : Int)) (by omega)
          have ht8 : (8 * (j : Int)).toNat = 8 * j := by omega
          rw [ht8] at hsh
          clear hz
          go_wp2_with (at_builtin; refine wpList_append_byte rfl _ _ 23 rfl Try.underlying23 Try.info5 g _ (b ++ [128] ++ List.replicate (padZ b.length) 0 ++ dn) rfl HO2.out.1 _ (cut8 (shr64 X (8 * j))) rfl rfl (by rw [HO2.out.2.2.2]; omega) ?_; rw [HO2.out.2.2.2]; intro g4 c4 w4 ho4 hg4 hl4 hc4 hm4 hO4)
          have hbyte : cut8 (shr64 X (8 * j)) = UInt8.ofNat (8 * b.length / 256 ^ j) := by
            unfold cut8 shr64
            rw [HX.out, UInt64.toNat_ofNat', Nat.mod_eq_of_lt (Nat.lt_of_le_of_lt (Nat.div_le_self _ _) (by omega)), Nat.pow_mul]
          have hdn2 : (dn ++ [cut8 (shr64 X (8 * j))]) ++ be (8 * b.length) j = be (8 * b.length) 8 := by
            rw [hbyte, ← HO2.out.2.1, List.append_assoc]
            rfl
          refine ⟨⟨j, (j : Int) - 1, g4, m + 1, c4, dn ++ [cut8 (shr64 X (8 * j))], rfl, rfl, by omega, rfl, by rw [← List.append_assoc, List.length_append, HO2.out.2.2.2]; rfl, by rw [← List.append_assoc]; exact ho4, hdn2, by omega, hl4, app_below HO2.out.2.2.1 hg hszr hO4⟩, by simp [intOf]⟩
end Go.Proofs.Ytegmimnhkohaoaa
