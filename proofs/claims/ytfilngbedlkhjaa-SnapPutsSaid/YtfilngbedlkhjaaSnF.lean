/-
  The State that is none, and the one of the start (server.New). No condition.
-/
import Derived.Test.YtfilngbedlkhjaaSnD
import Derived.Deep.WholeRow
namespace Go.Proofs.Ytfilngbedlkhjaa
open Go.RowKit Go.Kx
set_option linter.unusedVariables false
set_option linter.unusedSimpArgs false

/-- The cells of no State. -/
def zL : List Value := [.int .i64 0, .slice none 0 0] ++ (List.replicate 224 (.int .u8 0) ++ [.int .i64 0, .int .i64 0, .int .i64 0, .int .i64 0, .bool false, .slice none 0 0, .slice none 0 0, .int .i64 0])
def zC : Array Value := zL.toArray
def nC : Array Value := zC.setIfInBounds 233 (.int .i64 (-1))
theorem zL_length : zL.length = 234 := by kernel_rfl
theorem zC_size : zC.size = 234 := zL_length
theorem nC_size : nC.size = 234 := by unfold nC; rw [Array.size_setIfInBounds, zC_size]
theorem mid_cells (A B : Value) (m : Nat) (T : List Value) (i : Nat) (hi : i < m) : ([A, B] ++ (List.replicate m (.int .u8 0) ++ T))[2 + i]? = some (.int .u8 0) := by
  rw [List.getElem?_append_right (by simp)]
  simp only [List.length_cons, List.length_nil, Nat.zero_add, Nat.reduceAdd, Nat.add_sub_cancel_left]
  rw [List.getElem?_append_left (by simpa using hi)]
  simp [hi]
theorem zC_ok : StC zC 0 (.slice none 0 0) (List.replicate 224 0) 0 0 0 0 false (.slice none 0 0) (.slice none 0 0) 0 := by
  refine ⟨zC_size, List.length_replicate, by kernel_rfl, by kernel_rfl, ?_, by kernel_rfl, by kernel_rfl, by kernel_rfl, by kernel_rfl, by kernel_rfl, by kernel_rfl, by kernel_rfl, by kernel_rfl⟩
  intro i hi
  have hi' : i < 224 := by rwa [List.length_replicate] at hi
  rw [List.getElem_replicate, show B8 0 = .int .u8 0 from rfl]
  unfold zC
  rw [List.getElem?_toArray]
  unfold zL
  exact mid_cells _ _ 224 _ i hi'
theorem nC_ok : StC nC 0 (.slice none 0 0) (List.replicate 224 0) 0 0 0 0 false (.slice none 0 0) (.slice none 0 0) (-1) :=
  zC_ok.put (by simp) (by simp) (by omega) (by simp) (by simp) (by simp) (by simp) (by simp) (by simp) (by simp) (by simp)
theorem zC_one : zC.all (·.oneCell') = true := by decide +kernel
theorem nC_one : nC.all (·.oneCell') = true := by decide +kernel

theorem Try.zeroS : (Try.prog.info? 35).map (fun i => (i.zero, i.size)) = some (some (.agg zC), 234) := by kernel_rfl
theorem Try.zeroT : (Try.prog.info? 26).map (fun i => (i.zero, i.size)) = some (some (.agg zC), 234) := by kernel_rfl
theorem Try.builtN : Try.prog.built 35 [(14, .int .i64 (-1))] = some nC := by kernel_rfl
theorem Try.builtZ : Try.prog.built 35 [] = some zC := by kernel_rfl
theorem Try.builtZT : Try.prog.built 26 [] = some zC := by kernel_rfl

theorem run_zeroS (w : World) : (zeroValue 35).run Try.prog w = .ok (.agg zC) w := (zero_of_info Try.zeroS).1 w
theorem run_buildN (w : World) : (Instr.build 35 #[(14, .int .i64 (-1))]).run Try.prog w = .ok (.agg nC) w := run_build w _ _ _ Try.builtN

theorem run_buildZ (w : World) : (Instr.build 35 #[]).run Try.prog w = .ok (.agg zC) w := run_build w _ _ _ Try.builtZ

theorem only_setRow {q : Nat → Prop} (w : World) (g : Nat) (cs : Array Value) (h : q g) : Only q w (w.setRow g cs) :=
  ⟨rfl, rfl, rfl, by simp, fun k _ hk => setRow_other w g k cs (fun e => hk (e ▸ h))⟩

/-- A result that is a struct in memory beside two more. -/
theorem results_ctt {P : Program} {fn : Func} (p u v : Tmp) {ty : TypeId} (h : fn.results = #[.cell p ty, .tmp u, .tmp v]) (tmps : Array Value) (w : World) (g : Nat) (t : TypeId) (cs : Array Value) (fr : Nat × Nat) (d : TypeDesc) (U V : Value)
    (hp : tmps.getD p undef = .pointer (some ⟨g, 0, none⟩)) (hU : tmps.getD u undef = U) (hV : tmps.getD v undef = V) (hg : w.heap[g]? = some (.cells cs t fr))
    (hu : P.underlying ty = some d) (hd : (match d with | .struct _ | .array _ _ => true | _ => false) = true) (hi : (P.info? ty).map (·.size) = some cs.size) :
    (results fn tmps).run P w = .ok (.tuple #[.agg cs, U, V]) w := by
  subst hU hV
  have hp' : tmps[p]?.getD undef = .pointer (some ⟨g, 0, none⟩) := by simpa using hp
  simp [results, h, hp', asAddr, run_loadVar_row w g t ty cs fr d hg hu hd hi]

/-- The load of a struct, where its guard lets it be. -/
theorem wpList_load_wanted {P : Program} {ops : Array Oper} {rest : List Oper} {op : Oper} {a : Act} {w : World} {Q : Exit → Act → World → Prop} (hw : Region.wanted op (yielded ops a.tmps) = true) (ty : TypeId) (x : Operand) (ho : op.op = .load ty x)
    (b o : Nat) (hx : a.eval x = .pointer (some ⟨b, o, none⟩)) (cs : List Value) (d : TypeDesc) (hc : w.rangeAt b o cs)
    (hu : P.underlying ty = some d) (hd : d.isRow = true) (hi : (P.info? ty).map (·.size) = some cs.length)
    (h : wpList P ops Q rest (a.put op.dst (.agg cs.toArray)) w) : wpList P ops Q (op :: rest) a w :=
  wpList_step fun _ hK => by rw [if_pos hw]; exact wp_load_mid ty x ho b o hx cs d hc hu hd hi (hK _ _ h)

set_option maxHeartbeats 4000000 in
set_option maxRecDepth 100000 in
theorem snew_c (w : World) : Calls Try.prog 16 #[] w fun e w' => e = .returned (.agg nC) ∧ Below w.heap.size w w' := by
  have hz := run_zeroS
  have hb := run_buildN
  go_enter Try.func16, Try.ntmps16
  go_wp2_with (refine wpList_store_row rfl 35 (.tmp 0) (.tmp 1) rfl w.heap.size nC rfl rfl 35 zC (heap_alloc_new w _) (by rw [nC_size]; exact Try.infoS) (by rw [nC_size, zC_size]) nC_one ?_)
  have hst := setRow_heap (w.alloc (.cells zC 35)) w.heap.size zC nC 35 (0, 0) (heap_alloc_new w _)
  refine bodyPost_ret (v := .agg nC) (results_cell_row rfl _ _ w.heap.size 35 nC (0, 0) _ rfl hst Try.underlying35 rfl (by rw [nC_size]; exact Try.infoS)) rfl ⟨rfl, ?_⟩
  exact below_only ((Below.refl _ w).alloc (Nat.le_refl _) _) (by simp) (only_setRow (q := fun k => k = w.heap.size) _ _ _ rfl) (by intro k hk e; omega)
end Go.Proofs.Ytfilngbedlkhjaa
