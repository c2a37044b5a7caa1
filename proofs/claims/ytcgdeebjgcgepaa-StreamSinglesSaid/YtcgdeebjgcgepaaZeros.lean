/-
  append of zero bytes onto a row of the call's own. Conditions: together at most 2 to the 47th bytes.
-/
import Derived.Test.YtcgdeebjgcgepaaBase
import Derived.Lib.AppendZerosOnto
namespace Go.Kx
open Go.RowKit

theorem zeroCells_one (x : Value) (n : Nat) : Builtin.zeroCells #[x] n = (List.replicate n x).toArray := by
  unfold Builtin.zeroCells
  apply Array.ext
  · simp
  · intro i h1 h2
    simp
    rw [show i % 1 = 0 from by omega]
    rfl

theorem map_zeros (k : Nat) : (List.replicate k (0 : UInt8)).map B8 = List.replicate k (.int .u8 0) := by rw [List.map_replicate]; rfl

/-- append(s, make([]byte, k)...): s the call's own. -/
theorem run_append_zeros {P : Program} (w : World) (t tn ty : TypeId) (kq kn : IntKind) (ht : P.underlying t = some (.slice 5)) (htn : P.underlying tn = some (.int kn))
    (hinfo : (P.info? 5).map (fun i => (i.zero, i.size, i.bytes)) = some (some (.int .u8 0), 1, 1)) (g : Nat) (v : Value) (l : List UInt8) (hown : Own w g v l) (k : Nat) (hb : l.length + k ≤ 140737488355328) :
    ∃ g' v' w', (Builtin.append_ #[t, tn] ty #[v, .int kq k]).run P w = .ok v' w' ∧ Own w' g' v' (l ++ List.replicate k 0) ∧ (g' = g ∨ g' = w.heap.size) ∧ Only (· = g) w w' := by
  obtain ⟨i, hi, hz, hz1, hz2⟩ := info_parts hinfo
  have hw : IntKind.i64.wrap (k : Int) = k := by rw [IntKind.wrap_i64]; omega
  have hneg : ¬ ((k : Int) < 0) := by omega
  have h48i : ¬ (281474976710656 < (k : Int) * (i.bytes : Int)) := by rw [hz2]; omega
  obtain ⟨⟨hlen, hcase⟩, hgb⟩ := hown
  have hown : Own w g v l := ⟨⟨hlen, hcase⟩, hgb⟩
  by_cases h0 : k = 0
  · subst h0
    refine ⟨g, v, w, ?_, by simpa using hown, .inl rfl, Only.refl _ _⟩
    rcases hcase with ⟨rfl, hn⟩ | ⟨g0, cap, cur, rfl, hbb, hg, hnc, hcm, hcs, htake⟩
    · simp [Builtin.append_, run_underlying ht, run_underlying htn, sizeOf, typeInfo, hi, asInt, asIntOf, IntKind.wrap_i64]
    · simp [Builtin.append_, run_underlying ht, run_underlying htn, sizeOf, typeInfo, hi, asInt, asIntOf, IntKind.wrap_i64, hnc, storeCells]
  · have hns : ¬ (k * i.size = 0) := by rw [hz1]; omega
    have grown : ∀ (old : Nat), old < l.length + k → ∀ ws : World, ws = w.drew.alloc (.cells ((l.map B8).toArray ++ Builtin.zeroCells #[.int .u8 0] k ++ Builtin.zeroCells #[.int .u8 0] (grownCap w (l.length + k) old 5 - (l.length + k))) 5) →
        Own ws w.heap.size (.slice (some ⟨w.heap.size, 0, none⟩) (l.length + k) (grownCap w (l.length + k) old 5)) (l ++ List.replicate k 0) ∧ Only (· = g) w ws := by
      intro old ho ws hws
      subst hws
      have hge := grownCap_ge w (l.length + k) old 5
      have hcm : grownCap w (l.length + k) old 5 ≤ maxLen := grownCap_le_maxLen w (l.length + k) old 5 (by unfold maxLen; omega)
      refine ⟨⟨⟨by simp, .inr ⟨w.heap.size, _, _, by simp, Nat.zero_le _, heap_alloc_new w.drew _, by simpa using hge, hcm, ?_, ?_⟩⟩, .inr rfl⟩, (Only.refl _ _).drew.alloc _⟩
      · simp only [Array.size_append, List.size_toArray, List.length_map, zeroCells_one, List.length_replicate]; omega
      · simp only [zeroCells_one, Array.toList_append, List.append_assoc]
        rw [List.map_append, map_zeros, ← List.append_assoc]
        apply List.take_left'
        simp
    rcases hcase with ⟨rfl, hn⟩ | ⟨g0, cap, cur, rfl, hbb, hg, hnc, hcm, hcs, htake⟩
    · have hl : l = [] := List.length_eq_zero_iff.1 hn
      subst hl
      have hr := Lib.run_append_grow_zeros (P := P) w t tn ty 5 i (.int .u8 0) kq kn ht htn hi hz none 0 0 [] (by simp [Builtin.firstCells, Sem.run_pure]) k (by omega) (by omega) (by omega) (by omega) (by rw [hz2]; omega) (by rw [hz2]; exact growslice_fits (by omega) (by omega))
      obtain ⟨ho, hO⟩ := grown 0 (by simp; omega) _ rfl
      simp only [List.length_nil, Nat.zero_add, show (Value.int .u8 0).cells = #[Value.int .u8 0] from rfl] at ho hO hr
      exact ⟨w.heap.size, _, _, hr, by simpa using ho, .inr rfl, by simpa using hO⟩
    · have hgg : g0 = g := by simpa [Value.ownBlock] using hgb
      subst hgg
      by_cases hroom : l.length + k ≤ cap
      · have hst := run_storeCells_at P g0 (l.length * 1) 5 (List.replicate k (.int .u8 0)) 0 cur w hg (by simp; omega) (by intro u hu; rw [List.mem_replicate] at hu; rw [hu.2]; rfl)
        simp only [Nat.add_zero, Nat.mul_one] at hst
        refine ⟨g0, .slice (some ⟨g0, 0, none⟩) (l.length + k) cap, w.setRow g0 (cur.toList.take l.length ++ List.replicate k (Value.int .u8 0) ++ cur.toList.drop (l.length + k)).toArray, ?_, ?_, .inl rfl, ?_⟩
        · simp [Builtin.append_, run_underlying ht, run_underlying htn, sizeOf, typeInfo, zeroValue, hi, hz, hz1, asInt, asIntOf, hw, hneg, h48i, hroom, zeroCells_one, Addr.add_lit, Value.cells, h0]
          simp only [List.length_replicate, List.append_assoc] at hst
          rw [hst]
          rfl
        · refine ⟨⟨by simp, .inr ⟨g0, cap, _, by simp, Nat.zero_le _, setRow_heap w g0 cur _ 5 _ hg, by simpa using hroom, hcm, ?_, ?_⟩⟩, .inr rfl⟩
          · simp; omega
          · rw [List.map_append, map_zeros, ← htake]
            simp only [Nat.mul_one]
            apply List.take_left'
            simp; omega
        · exact ⟨rfl, rfl, rfl, by simp [World.setRow], fun x _ hx => setRow_other w g0 x _ hx⟩
      · have holds : ∀ j u, (l.map B8)[j]? = some u → w.drew.cell? ((⟨g0, 0, none⟩ : Addr).add j) = some u := World.ownsRow.cells (w := w) hown.1 (g := g0) rfl
        have hr := Lib.run_append_grow_zeros (P := P) w t tn ty 5 i (.int .u8 0) kq kn ht htn hi hz (some ⟨g0, 0, none⟩) l.length cap (l.map B8)
          (run_firstCells_some (P := P) w.drew i.size l.length ⟨g0, 0, none⟩ l.length cap (l.map B8) (by rw [hz1]; simp) holds) k (by omega) (by omega) (by omega) (by omega) (by rw [hz2]; omega) (by rw [hz2]; exact growslice_fits (by omega) (by omega))
        obtain ⟨ho, hO⟩ := grown cap (by omega) _ rfl
        exact ⟨w.heap.size, _, _, hr, ho, .inr rfl, hO⟩
end Go.Kx
