/-
  A map[int]bool of the call's own that holds a list of numbers: look-up and store. Condition: fewer than maxLen entries.
-/
import Derived.Test.YtegmimnhkohaoaaCurE
import Derived.Test.YtegmimnhkohaoaaAppB
import Derived.Maps.OwnOps
import Derived.Maps.Views
import Derived.WalkArith
namespace Go.Proofs.Ytegmimnhkohaoaa
open Go.RowKit Go.Kx Go.Maps

abbrev HD := DataW Unit
def hadD (had : List Int) : HD := had.foldr (fun k D => D.put (.int .i64 k) (.lit (.bool true))) (.map [])
theorem hadD_map (had : List Int) : IsMap (hadD had) := by
  induction had with
  | nil => exact isMap_empty
  | cons k t ih =>
    obtain ⟨es, h⟩ := ih
    show IsMap ((hadD t).put _ _)
    rw [h]
    exact ⟨_, rfl⟩
theorem hadD_at (had : List Int) (k : Int) : (hadD had).atKey (.int .i64 k) (.lit (.bool false)) = .lit (.bool (decide (k ∈ had))) := by
  induction had with
  | nil => simp [hadD, DataW.atKey]
  | cons x t ih =>
    show ((hadD t).put _ _).atKey _ _ = _
    by_cases e : k = x
    · subst e
      rw [atKey_put_same (hadD_map t) (by simp [WideAt.IsKeyLit])]
      simp
    · rw [atKey_put_other (by simp; exact e), ih]
      simp [e]
/-- Block b is a map that holds these numbers. -/
def HadAt (w : World) (b : Nat) (had : List Int) : Prop := w.ownsMap Try.prog 3 (plainElem (H := Unit) Try.prog 4) b had.length (hadD had)
theorem HadAt.lt {w : World} {b : Nat} {had : List Int} (h : HadAt w b had) : b < w.heap.size := World.ownsMap.lt h
theorem HadAt.new (w : World) : HadAt (w.alloc (.map #[] 0)) w.heap.size [] := World.ownsMap_made _ _ _ _
theorem HadAt.only {w w' : World} {q : Nat → Prop} {b : Nat} {had : List Int} (h : HadAt w b had) (ho : Only q w w') (hq : ¬ q b) : HadAt w' b had := by
  obtain ⟨es, clock, hb, F, hs, hD⟩ := id h
  exact ⟨es, clock, (ho.block b h.lt hq).trans hb, F, hs, hD⟩
theorem plainElem_bool_inv {P : Program} {e : TypeId} (he : P.underlying e = some .bool) {v : Value} {z : HD × List MemPlace} (h : plainElem P e v = some z) : ∃ x, v = .bool x ∧ z = (.lit (.bool x), []) := by
  unfold plainElem at h
  rw [he] at h
  cases v <;> simp at h
  exact ⟨_, rfl, h.symm⟩
theorem zeroB (w : World) : (zeroValue 4).run Try.prog w = .ok (.bool false) w := by kernel_rfl
theorem run_lookup_had {w : World} {b : Nat} {had : List Int} (h : HadAt w b had) (k : Int) (hk : (Lit.int .i64 k).wf = true) : (Instr.lookup 129 (.map (some b)) (.int .i64 k) false).run Try.prog w = .ok (.bool (decide (k ∈ had))) w := by
  obtain ⟨v, ps, hrun, hv⟩ := World.ownsMap.lookup h (int_keyed Try.underlying3) Try.underlying129 (zeroB w) (plainElem_bool Try.underlying4 false) (keyOf_int_mk Try.underlying3 hk)
  obtain ⟨x, rfl, hx⟩ := plainElem_bool_inv Try.underlying4 hv
  rw [hadD_at] at hx
  simp only [Prod.mk.injEq, DataW.lit.injEq, Lit.bool.injEq] at hx
  rw [hrun, hx.1]
theorem wpList_lookup_had (w : World) {ops : Array Oper} {rest : List Oper} {o : Oper} {a : Act} {Q : Exit → Act → World → Prop}
    (hg : o.guard = none) (m x : Operand) (hop : o.op = Op.lookup 129 m x false) (b : Nat) (had : List Int) (k : Int)
    (hm : a.eval m = .map (some b)) (hx : a.eval x = .int .i64 k) (h : HadAt w b had) (hk : (Lit.int .i64 k).wf = true)
    (hK : wpList Try.prog ops Q rest (a.put o.dst (.bool (decide (k ∈ had)))) w) : wpList Try.prog ops Q (o :: rest) a w := by
  refine wpList_plain hg fun K' hK' => ?_
  have hrun := run_lookup_had h k hk
  unfold Oper.wp
  simp [execOp, hop, hm, hx, hrun, Result.andThen]
  exact hK' _ _ hK
theorem wpList_update_had (w : World) {ops : Array Oper} {rest : List Oper} {o : Oper} {a : Act} {Q : Exit → Act → World → Prop}
    (hg : o.guard = none) (m x v : Operand) (hop : o.op = Op.mapUpdate 129 m x v) (b : Nat) (had : List Int) (k : Int)
    (hm : a.eval m = .map (some b)) (hx : a.eval x = .int .i64 k) (hv : a.eval v = .bool true) (h : HadAt w b had) (hk : (Lit.int .i64 k).wf = true) (hn : had.length < maxLen)
    (hK : ∀ w', HadAt w' b (k :: had) → Only (· = b) w w' → wpList Try.prog ops Q rest (a.put o.dst undef) w') : wpList Try.prog ops Q (o :: rest) a w :=
  wpList_mapUpdate_own w hg m x v 129 hop 3 4 (int_keyed Try.underlying3) Try.underlying129 _ b had.length (hadD had) hm h hn _ _ _ hx hv (keyOf_int_mk Try.underlying3 hk) _ [] (plainElem_bool Try.underlying4 true)
    fun w' h1 h2 => hK w' h1 ((Only.of_grown h2).mono fun k _ hk => by simpa using hk)
end Go.Proofs.Ytegmimnhkohaoaa
