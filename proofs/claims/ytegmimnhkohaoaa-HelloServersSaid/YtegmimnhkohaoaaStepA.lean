/-
  Steps of a region that draws its order: min, append of bytes that lie somewhere, append of zeros. Conditions: those of each.
-/
import Derived.Test.YtegmimnhkohaoaaBase
import Derived.Lib.AppendZerosOnto
namespace Go.Kx
open Go.RowKit

/-- A builtin's call as one step of a region that draws its order. -/
theorem step_builtin {P : Program} {ops : Array Oper} {w : World} {o : Oper} {a : Act} {K : Act → World → Prop} {Q : Exit → Act → World → Prop} {E : Prop} (hgd : o.guard = none) (s x : Operand) (t u : TypeId)
    (ho : o.op = .call { callee := .builtin .append, args := #[s, x], argTypes := #[t, u] }) (v y : Value) (hs : a.eval s = v) (hx : a.eval x = y) {v' : Value} {w' : World}
    (hr : (Builtin.append_ #[t, u] o.type #[v, y]).run P w = .ok v' w') (h : K (a.put o.dst v') w') :
    if Region.wanted o (yielded ops a.tmps) = true then Oper.wp P o a w K Q else E := by
  have hw : Region.wanted o (yielded ops a.tmps) = true := by simp [Region.wanted, hgd]
  rw [if_pos hw]
  unfold Oper.wp execOp
  simp only [ho, resolve, invoke, builtin, Sem.run_bind, Sem.run_pure, Result.andThen_ok, List.map_toArray, List.map_cons, List.map_nil, hs, hx, hr]
  exact h

theorem run_min {P : Program} (w : World) (ts : Array TypeId) (t : TypeId) (n c : Int) : (Builtin.min_ ts t #[.int .i64 n, .int .i64 c]).run P w = .ok (.int .i64 (min n c)) w := by
  have h : Builtin.min2 (.int .i64 n) (.int .i64 c) = pure (.int .i64 (min n c)) := by
    unfold Builtin.min2
    show pure (Value.int .i64 (if c < n then c else n)) = _
    congr 2
    split <;> omega
  simp [Builtin.min_, h, Sem.run_pure]

/-- min(n, c) of ints as one step. -/
theorem step_min {P : Program} {ops : Array Oper} {w : World} {o : Oper} {a : Act} {K : Act → World → Prop} {Q : Exit → Act → World → Prop} {E : Prop} (hgd : o.guard = none) (s x : Operand) (t u : TypeId)
    (ho : o.op = .call { callee := .builtin .min, args := #[s, x], argTypes := #[t, u] }) (n c m : Int) (hs : a.eval s = .int .i64 n) (hx : a.eval x = .int .i64 c) (hm : min n c = m) (h : K (a.put o.dst (.int .i64 m)) w) :
    if Region.wanted o (yielded ops a.tmps) = true then Oper.wp P o a w K Q else E := by
  have hw : Region.wanted o (yielded ops a.tmps) = true := by simp [Region.wanted, hgd]
  subst hm
  rw [if_pos hw]
  unfold Oper.wp execOp
  simp only [ho, resolve, invoke, builtin, Sem.run_bind, Sem.run_pure, Result.andThen_ok, List.map_toArray, List.map_cons, List.map_nil, hs, hx, run_min]
  exact h

/-- append of bytes that lie somewhere, as a run. -/
theorem run_append_bytes {P : Program} (w : World) (t ty : TypeId) (ht : P.underlying t = some (.slice 5)) (hi : (P.info? 5).map (fun i => (i.zero, i.size, i.bytes)) = some (some (.int .u8 0), 1, 1))
    (g : Nat) (v : Value) (l : List UInt8) (hown : Own w g v l) (S : Nat → Prop) (p : Option Addr) (m c : Nat) (news : List UInt8) (hm : news.length = m) (hnil : p = none → c = 0) (hn : Rd w S p news) (hbytes : l.length + news.length ≤ 140737488355328) :
    ∃ g' v' w', (Builtin.append_ #[t, t] ty #[v, .slice p m c]).run P w = .ok v' w' ∧ Own w' g' v' (l ++ news) ∧ (g' = g ∨ g' = w.heap.size) ∧ Only (· = g) w w' := by
  subst hm
  cases p with
  | none =>
    have hl := hn.none_nil
    subst hl
    rw [hnil rfl]
    obtain ⟨i, hi0, hz0, hz1, hz2⟩ := info_parts hi
    have hrun := run_append_owned_none (P := P) (w := w) 0 t ty 5 i 1 ht hi0 v l.length (l.map B8) hown.1
    exact ⟨g, v, w, hrun, by simpa using hown, .inl rfl, Only.refl _ _⟩
  | some ad =>
    have hnews : ∀ j u, (news.map B8)[j]? = some u → w.cell? (ad.add j) = some u := by
      intro j u hu
      simp only [List.getElem?_map, Option.map_eq_some_iff] at hu
      obtain ⟨b, hb, rfl⟩ := hu
      obtain ⟨hj, rfl⟩ := List.getElem?_eq_some_iff.1 hb
      obtain ⟨a', ha', _, hc'⟩ := hn j hj
      cases ha'
      exact hc'
    obtain ⟨g', v', w', hr, hrow, hg', hgr, hnl⟩ := run_append_row (P := P) w t ty 5 (.int .u8 0) 1 1 ht hi rfl (by decide) g v l.length (l.map B8) hown ad news.length c (news.map B8) (by simp) hnews (oneCell_map _) (by unfold maxLen; omega) (by omega)
    refine ⟨g', v', w', hr, ?_, hg', ?_⟩
    · unfold Own; simpa using hrow
    · exact (Only.of_grown hgr).mono fun k _ hk => by
        rcases hown.2 with h | h
        · rw [h] at hk; cases hk
        · rw [h] at hk; cases hk; rfl

theorem zeroCells_one (x : Value) (n : Nat) : Builtin.zeroCells #[x] n = (List.replicate n x).toArray := by
  unfold Builtin.zeroCells
  apply Array.ext
  · simp
  · intro i h1 h2
    simp
    rw [show i % 1 = 0 from by omega]
    rfl

theorem map_zeros (k : Nat) : (List.replicate k (0 : UInt8)).map B8 = List.replicate k (.int .u8 0) := by rw [List.map_replicate]; rfl

/-- append(s, make([]byte, k)...): s the call's own. -/
theorem run_append_zeros {P : Program} (w : World) (t tn ty : TypeId) (kq kn : IntKind) (ht : P.underlying t = some (.slice 5)) (htn : P.underlying tn = some (.int kn))
    (hinfo : (P.info? 5).map (fun i => (i.zero, i.size, i.bytes)) = some (some (.int .u8 0), 1, 1)) (g : Nat) (v : Value) (l : List UInt8) (hown : Own w g v l) (k : Nat) (hb : l.length + k ≤ 140737488355328) :
    ∃ g' v' w', (Builtin.append_ #[t, tn] ty #[v, .int kq k]).run P w = .ok v' w' ∧ Own w' g' v' (l ++ List.replicate k 0) ∧ (g' = g ∨ g' = w.heap.size) ∧ Only (· = g) w w' := by
  obtain ⟨i, hi, hz, hz1, hz2⟩ := info_parts hinfo
  have hw : IntKind.i64.wrap (k : Int) = k := by rw [IntKind.wrap_i64]; omega
  have hneg : ¬ ((k : Int) < 0) := by omega
  have h48i : ¬ (281474976710656 < (k : Int) * (i.bytes : Int)) := by rw [hz2]; omega
  obtain ⟨⟨hlen, hcase⟩, hgb⟩ := hown
  have hown : Own w g v l := ⟨⟨hlen, hcase⟩, hgb⟩
  by_cases h0 : k = 0
  · subst h0
    refine ⟨g, v, w, ?_, by simpa using hown, .inl rfl, Only.refl _ _⟩
    rcases hcase with ⟨rfl, hn⟩ | ⟨g0, cap, cur, rfl, hbb, hg, hnc, hcm, hcs, htake⟩
    · simp [Builtin.append_, run_underlying ht, run_underlying htn, sizeOf, typeInfo, hi, asInt, asIntOf, IntKind.wrap_i64]
    · simp [Builtin.append_, run_underlying ht, run_underlying htn, sizeOf, typeInfo, hi, asInt, asIntOf, IntKind.wrap_i64, hnc, storeCells]
  · have hns : ¬ (k * i.size = 0) := by rw [hz1]; omega
    have grown : ∀ (old : Nat), old < l.length + k → ∀ ws : World, ws = w.drew.alloc (.cells ((l.map B8).toArray ++ Builtin.zeroCells #[.int .u8 0] k ++ Builtin.zeroCells #[.int .u8 0] (grownCap w (l.length + k) old 5 - (l.length + k))) 5) →
        Own ws w.heap.size (.slice (some ⟨w.heap.size, 0, none⟩) (l.length + k) (grownCap w (l.length + k) old 5)) (l ++ List.replicate k 0) ∧ Only (· = g) w ws := by
      intro old ho ws hws
      subst hws
      have hge := grownCap_ge w (l.length + k) old 5
      have hcm : grownCap w (l.length + k) old 5 ≤ maxLen := grownCap_le_maxLen w (l.length + k) old 5 (by unfold maxLen; omega)
      refine ⟨⟨⟨by simp, .inr ⟨w.heap.size, _, _, by simp, Nat.zero_le _, heap_alloc_new w.drew _, by simpa using hge, hcm, ?_, ?_⟩⟩, .inr rfl⟩, (Only.refl _ _).drew.alloc _⟩
      · simp only [Array.size_append, List.size_toArray, List.length_map, zeroCells_one, List.length_replicate]; omega
      · simp only [zeroCells_one, Array.toList_append, List.append_assoc]
        rw [List.map_append, map_zeros, ← List.append_assoc]
        apply List.take_left'
        simp
    rcases hcase with ⟨rfl, hn⟩ | ⟨g0, cap, cur, rfl, hbb, hg, hnc, hcm, hcs, htake⟩
    · have hl : l = [] := List.length_eq_zero_iff.1 hn
      subst hl
      have hr := Lib.run_append_grow_zeros (P := P) w t tn ty 5 i (.int .u8 0) kq kn ht htn hi hz none 0 0 [] (by simp [Builtin.firstCells, Sem.run_pure]) k (by omega) (by omega) (by omega) (by omega) (by rw [hz2]; omega) (by rw [hz2]; exact growslice_fits (by omega) (by omega))
      obtain ⟨ho, hO⟩ := grown 0 (by simp; omega) _ rfl
      simp only [List.length_nil, Nat.zero_add, show (Value.int .u8 0).cells = #[Value.int .u8 0] from rfl] at ho hO hr
      exact ⟨w.heap.size, _, _, hr, by simpa using ho, .inr rfl, by simpa using hO⟩
    · have hgg : g0 = g := by simpa [Value.ownBlock] using hgb
      subst hgg
      by_cases hroom : l.length + k ≤ cap
      · have hst := run_storeCells_at P g0 (l.length * 1) 5 (List.replicate k (.int .u8 0)) 0 cur w hg (by simp; omega) (by intro u hu; rw [List.mem_replicate] at hu; rw [hu.2]; rfl)
        simp only [Nat.add_zero, Nat.mul_one] at hst
        refine ⟨g0, .slice (some ⟨g0, 0, none⟩) (l.length + k) cap, w.setRow g0 (cur.toList.take l.length ++ List.replicate k (Value.int .u8 0) ++ cur.toList.drop (l.length + k)).toArray, ?_, ?_, .inl rfl, ?_⟩
        · simp [Builtin.append_, run_underlying ht, run_underlying htn, sizeOf, typeInfo, zeroValue, hi, hz, hz1, asInt, asIntOf, hw, hneg, h48i, hroom, zeroCells_one, Addr.add_lit, Value.cells, h0]
          simp only [List.length_replicate, List.append_assoc] at hst
          rw [hst]
          rfl
        · refine ⟨⟨by simp, .inr ⟨g0, cap, _, by simp, Nat.zero_le _, setRow_heap w g0 cur _ 5 _ hg, by simpa using hroom, hcm, ?_, ?_⟩⟩, .inr rfl⟩
          · simp; omega
          · rw [List.map_append, map_zeros, ← htake]
            simp only [Nat.mul_one]
            apply List.take_left'
            simp; omega
        · exact ⟨rfl, rfl, rfl, by simp [World.setRow], fun x _ hx => setRow_other w g0 x _ hx⟩
      · have holds : ∀ j u, (l.map B8)[j]? = some u → w.drew.cell? ((⟨g0, 0, none⟩ : Addr).add j) = some u := World.ownsRow.cells (w := w) hown.1 (g := g0) rfl
        have hr := Lib.run_append_grow_zeros (P := P) w t tn ty 5 i (.int .u8 0) kq kn ht htn hi hz (some ⟨g0, 0, none⟩) l.length cap (l.map B8)
          (run_firstCells_some (P := P) w.drew i.size l.length ⟨g0, 0, none⟩ l.length cap (l.map B8) (by rw [hz1]; simp) holds) k (by omega) (by omega) (by omega) (by omega) (by rw [hz2]; omega) (by rw [hz2]; exact growslice_fits (by omega) (by omega))
        obtain ⟨ho, hO⟩ := grown cap (by omega) _ rfl
        exact ⟨w.heap.size, _, _, hr, ho, .inr rfl, hO⟩
end Go.Kx
