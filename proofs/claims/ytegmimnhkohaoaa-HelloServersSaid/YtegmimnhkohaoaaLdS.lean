/-
  Loads of structs and of arrays of 32 bytes out of blocks that are known whole, as rules of the walk. No condition.
-/
import Derived.Test.YtegmimnhkohaoaaHelS
namespace Go.Proofs.Ytegmimnhkohaoaa
open Go.RowKit Go.Kx
set_option linter.unusedVariables false
set_option linter.unusedSimpArgs false

noncomputable def hidLoad (t : TypeId) (v : Value) (w : World) : Result Next := (do let x ← Instr.loadAt t v; pure (Next.value x) : Sem Next).run Try.prog w
noncomputable def stLoad (n : Nat) (t : TypeId) (v : Value) (w : World) : Result Next :=
  match v with
  | .pointer (some ⟨r, 0, none⟩) => (match w.heap[r]? with
    | some (.cells C _ _) => if C.size = n then .ok (.value (.agg C)) w else hidLoad t v w
    | _ => hidLoad t v w)
  | _ => hidLoad t v w
/-- The first 32 cells of a block. -/
def first32 (C : Array Value) : Array Value := (C.toList.take 32).toArray
noncomputable def ptLoad (t : TypeId) (v : Value) (w : World) : Result Next :=
  match v with
  | .pointer (some ⟨r, 0, none⟩) => (match w.heap[r]? with
    | some (.cells C _ _) => if 32 ≤ C.size then .ok (.value (.agg (first32 C))) w else hidLoad t v w
    | _ => hidLoad t v w)
  | _ => hidLoad t v w
theorem blk_range {w : World} {r : Nat} {C : Array Value} {t : TypeId} {fr : Nat × Nat} (hb : w.heap[r]? = some (.cells C t fr)) : w.rangeAt r 0 C.toList := by
  intro j v hv
  rw [cell_of_row w r (0 + j) C t fr hb, Nat.zero_add]
  simpa using hv
theorem blk_range32 {w : World} {r : Nat} {C : Array Value} {t : TypeId} {fr : Nat × Nat} (hb : w.heap[r]? = some (.cells C t fr)) : w.rangeAt r 0 (C.toList.take 32) := by
  intro j v hv
  refine blk_range hb j v ?_
  rw [List.getElem?_take] at hv
  split at hv
  · exact hv
  · cases hv
theorem stLoad_eq (n : Nat) (t : TypeId) (d : TypeDesc) (hu : Try.prog.underlying t = some d) (hd : d.isRow = true) (hi : (Try.prog.info? t).map (·.size) = some n) (dst : Option Tmp) (x : Operand) (ty : TypeId) (pos : String) (after : Array Edge) (gd : Option (Nat × Bool)) (ρ : Operand → Value) (w : World) :
    (execOp ρ ⟨dst, .load t x, ty, pos, after, gd⟩).run Try.prog w = stLoad n t (ρ x) w := by
  have h0 : (execOp ρ ⟨dst, .load t x, ty, pos, after, gd⟩).run Try.prog w = hidLoad t (ρ x) w := rfl
  rw [h0]
  generalize ρ x = v
  unfold stLoad
  split
  · rename_i r
    split
    · rename_i C t' fr hb
      split
      · rename_i hs
        have h1 := run_loadAt_mid (P := Try.prog) w r 0 t C.toList d (blk_range hb) hu hd (by rw [Array.length_toList, hs]; exact hi)
        unfold hidLoad
        rw [Sem.run_bind, h1, Array.toArray_toList]
        rfl
      · rfl
    · rfl
  · rfl
theorem ptLoad_eq (t : TypeId) (d : TypeDesc) (hu : Try.prog.underlying t = some d) (hd : d.isRow = true) (hi : (Try.prog.info? t).map (·.size) = some 32) (dst : Option Tmp) (x : Operand) (ty : TypeId) (pos : String) (after : Array Edge) (gd : Option (Nat × Bool)) (ρ : Operand → Value) (w : World) :
    (execOp ρ ⟨dst, .load t x, ty, pos, after, gd⟩).run Try.prog w = ptLoad t (ρ x) w := by
  have h0 : (execOp ρ ⟨dst, .load t x, ty, pos, after, gd⟩).run Try.prog w = hidLoad t (ρ x) w := rfl
  rw [h0]
  generalize ρ x = v
  unfold ptLoad
  split
  · rename_i r
    split
    · rename_i C t' fr hb
      split
      · rename_i hs
        have h1 := run_loadAt_mid (P := Try.prog) w r 0 t (C.toList.take 32) d (blk_range32 hb) hu hd (by rw [List.length_take, Array.length_toList, Nat.min_eq_left hs]; exact hi)
        unfold hidLoad first32
        rw [Sem.run_bind, h1]
        rfl
      · rfl
    · rfl
  · rfl
theorem exec_ld32 (dst : Option Tmp) (x : Operand) (ty : TypeId) (pos : String) (after : Array Edge) (gd : Option (Nat × Bool)) (ρ : Operand → Value) (w : World) :
    (execOp ρ ⟨dst, .load 22 x, ty, pos, after, gd⟩).run Try.prog w = ptLoad 22 (ρ x) w := ptLoad_eq _ _ Try.underlying22 rfl Try.infoB32 _ _ _ _ _ _ _ _
theorem exec_ldSv (dst : Option Tmp) (x : Operand) (ty : TypeId) (pos : String) (after : Array Edge) (gd : Option (Nat × Bool)) (ρ : Operand → Value) (w : World) :
    (execOp ρ ⟨dst, .load 33 x, ty, pos, after, gd⟩).run Try.prog w = stLoad 40 33 (ρ x) w := stLoad_eq _ _ _ Try.underlying33 rfl Try.infoSv _ _ _ _ _ _ _ _
theorem exec_ldRv (dst : Option Tmp) (x : Operand) (ty : TypeId) (pos : String) (after : Array Edge) (gd : Option (Nat × Bool)) (ρ : Operand → Value) (w : World) :
    (execOp ρ ⟨dst, .load 27 x, ty, pos, after, gd⟩).run Try.prog w = stLoad 40 27 (ρ x) w := stLoad_eq _ _ _ Try.underlying27 rfl Try.infoRv _ _ _ _ _ _ _ _
theorem stLoad_at (n : Nat) (t : TypeId) (r : Nat) (w : World) : stLoad n t (.pointer (some ⟨r, 0, none⟩)) w = (match w.heap[r]? with
    | some (.cells C _ _) => if C.size = n then .ok (.value (.agg C)) w else hidLoad t (.pointer (some ⟨r, 0, none⟩)) w
    | _ => hidLoad t (.pointer (some ⟨r, 0, none⟩)) w) := rfl
theorem ptLoad_at (t : TypeId) (r : Nat) (w : World) : ptLoad t (.pointer (some ⟨r, 0, none⟩)) w = (match w.heap[r]? with
    | some (.cells C _ _) => if 32 ≤ C.size then .ok (.value (.agg (first32 C))) w else hidLoad t (.pointer (some ⟨r, 0, none⟩)) w
    | _ => hidLoad t (.pointer (some ⟨r, 0, none⟩)) w) := rfl
/-- The same as rules for execOp itself, whichever way the operation is written. -/
noncomputable def ldSem (t : TypeId) (v : Value) : Sem Next := do let x ← Instr.loadAt t v; pure (Next.value x)
theorem op_ld32 (dst : Option Tmp) (x : Operand) (ty : TypeId) (pos : String) (after : Array Edge) (gd : Option (Nat × Bool)) (ρ : Operand → Value) : execOp ρ ⟨dst, .load 22 x, ty, pos, after, gd⟩ = ldSem 22 (ρ x) := rfl
theorem op_ldSv (dst : Option Tmp) (x : Operand) (ty : TypeId) (pos : String) (after : Array Edge) (gd : Option (Nat × Bool)) (ρ : Operand → Value) : execOp ρ ⟨dst, .load 33 x, ty, pos, after, gd⟩ = ldSem 33 (ρ x) := rfl
theorem op_ldRv (dst : Option Tmp) (x : Operand) (ty : TypeId) (pos : String) (after : Array Edge) (gd : Option (Nat × Bool)) (ρ : Operand → Value) : execOp ρ ⟨dst, .load 27 x, ty, pos, after, gd⟩ = ldSem 27 (ρ x) := rfl
theorem run_ld32 (v : Value) (w : World) : (ldSem 22 v).run Try.prog w = ptLoad 22 v w := (exec_ld32 none (.const v) 0 "" #[] none (fun _ => v) w)
theorem run_ldSv (v : Value) (w : World) : (ldSem 33 v).run Try.prog w = stLoad 40 33 v w := (exec_ldSv none (.const v) 0 "" #[] none (fun _ => v) w)
theorem run_ldRv (v : Value) (w : World) : (ldSem 27 v).run Try.prog w = stLoad 40 27 v w := (exec_ldRv none (.const v) 0 "" #[] none (fun _ => v) w)
theorem svV_sz (s : Sv) (z : S3) (h : s.R.length = 32) : (svV s z).size = 40 := by simp [svV, svC, h]
theorem svV_first (s : Sv) (z : S3) (h : s.R.length = 32) : first32 (svV s z) = (s.R.map B8).toArray := by
  unfold first32 svV svC
  rw [List.toList_toArray, List.take_append_of_le_length (by simp [h]), List.take_of_length_le (by simp [h])]
end Go.Proofs.Ytegmimnhkohaoaa
