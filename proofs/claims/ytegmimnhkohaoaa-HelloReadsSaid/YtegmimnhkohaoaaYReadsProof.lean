/-
  Of all bytes, bent ones of greetings among them, the greeting is told, or the error. No condition.
-/
import Derived.Test.YtegmimnhkohaoaaRows
import Derived.Test.YtegmimnhkohaoaaZg1
import Derived.Test.YtegmimnhkohaoaaYLawHDO
import Derived.WalkKit
import Derived.ProofKit
import Derived.OpenShut
import Derived.ShutString
import Derived.ChangeOld
import Derived.Below
import Derived.SizedLaws
namespace Go.Proofs.Ytegmimnhkohaoaa.helloReads
open Go.ChangeShapes Go.WideShapes Go.ChangeAt Go.RowKit
open Go.ChangeMaps (open_string shut_string)
set_option linter.unusedVariables false

theorem own : ownKnob Try.prog.godebug = none := by kernel_rfl
theorem laidOut : laidOutB Try.prog = true := by kernel_rfl

theorem list2 {α : Type} (l : List α) (h : (⟨l⟩ : Array α).size = 2) : ∃ a b, l = [a, b] := by
  match l, h with
  | [a, b], _ => exact ⟨a, b, rfl⟩
theorem list2' {α : Type} (l : List α) (h : l.length = 2) : ∃ a b, l = [a, b] := by
  match l, h with
  | [a, b], _ => exact ⟨a, b, rfl⟩

theorem walk (C0 : Array Value) (C1 : Array Value) (a2 b2 : Int) (w : World) (w0 : IsClS w C0) (w1 : IsSvE w C1) :
    Calls Try.prog 7 #[.agg C0, .agg C1, .agg #[.int .i64 a2, .int .i64 b2]] w fun e w' => e = .returned (.bool true) ∧ Below w.heap.size w w' := by
  obtain ⟨s, z, rfl, h, hs⟩ := w0
  obtain ⟨t, y, rfl, h'⟩ := w1
  exact helloReads_c s z t y a2 b2 w h hs h'

set_option maxRecDepth 100000 in
theorem lifted (os : Os) (started : os.Started) (H : Type) (enc : TypeId × Value → H) :
    ReturnsInHanded {} Try.checked os 7 .any (Rows.helloReadsSpec.pre6 enc Try.prog Try.f7 Rows.helloReadsRow.domain false) (Rows.helloReadsSpec.post enc Try.prog Try.f7 false true false false) := by
  refine returnsInHanded_of_change_sized (C := Try.checked) own started (by kernel_rfl) Try.func7
    (ChangeSpec.witness6 (enc := enc) (C := Try.checked) false ⟨#[], #[.agg (clV clZ z10), .agg (svV svZ z0), .agg #[.int .i64 0, .int .i64 0]], []⟩ 8 (by kernel_rfl) (by kernel_rfl) (by kernel_rfl) (by kernel_rfl)) ?_
  intro W base args ds gs before hval0 hW hcnd hsz0 _
  have hsz : (DataW.weightsEach Try.prog (Try.f7.params.toList ++ Rows.helloReadsSpec.plain.varTypes Try.prog) (ds ++ gs)).all (· ≤ reachBytes) = true := hsz0
  clear hsz0
  have hval : ∀ (j : Nat) t v, Try.f7.params[j]? = some t → args[j]? = some v → Value.okWide Try.prog W .any base t v := hval0
  have hW' := hW
  obtain ⟨p, q, hA0, hV, rfl, hfz, hnd⟩ := hW
  have hA : DataW.TrodAll enc Try.prog W 0 (fun _ => true) true Try.f7.params.toList args.toList ds p := hA0
  rw [Try.params7] at hA hval hsz
  obtain ⟨v0, vs0, d0, ds0, p0, q0, hargs, rfl, rfl, h0, r0⟩ := trodAll_cons hA
  obtain ⟨v1, vs1, d1, ds1, p1, q1, rfl, rfl, rfl, h1, r1⟩ := trodAll_cons r0
  obtain ⟨v2, vs2, d2, ds2, p2, q2, rfl, rfl, rfl, h2, r2⟩ := trodAll_cons r1
  obtain ⟨rfl, rfl, rfl⟩ := trodAll_nil r2
  obtain rfl : args = #[v0, v1, v2] := by cases args; simp_all
  obtain ⟨rfl, rfl⟩ := trodVars_none hV
  have k0 := h0
  have lt0 : ∀ x ∈ p0, x.block < W.heap.size := by obtain ⟨m, hm⟩ := k0; exact DataW.trod_lt m _ _ _ hm
  have k1 := h1
  have lt1 : ∀ x ∈ p1, x.block < W.heap.size := by obtain ⟨m, hm⟩ := k1; exact DataW.trod_lt m _ _ _ hm
  have k2 := h2
  have lt2 : ∀ x ∈ p2, x.block < W.heap.size := by obtain ⟨m, hm⟩ := k2; exact DataW.trod_lt m _ _ _ hm
  obtain ⟨C0, rfl, hcs0⟩ := okWide_struct Try.underlying48 (hval 0 48 v0 rfl rfl)
  have w0 : IsClS W C0 := by
    obtain ⟨fuel, hf⟩ := h0
    exact cl_ofS hcs0 (wt_le hsz (j := 0) (t := 48) rfl rfl) hf
  obtain ⟨C1, rfl, hsz1⟩ := okWide_struct Try.underlying27 (hval 1 27 v1 rfl rfl)
  have w1 : IsSvE W C1 := by
    obtain ⟨fuel, hf⟩ := h1
    exact sv_of hsz1 hf
  obtain ⟨cs2, rfl, hsz2, _⟩ : ∃ cs, v2 = .agg cs ∧ cs.size = Try.prog.cellsOf 72 ∧ Row.okWide Try.prog W .any base 72 cs := by
    have := hval 2 72 v2 rfl rfl
    simpa [Value.okWide, Try.underlying72] using this
  rw [show Try.prog.cellsOf 72 = 2 from by kernel_rfl] at hsz2
  obtain ⟨l2⟩ := cs2
  obtain ⟨c20, c21, rfl⟩ := list2 l2 hsz2
  obtain ⟨a2, b2, rfl, rfl⟩ : ∃ a b : Int, c20 = .int .i64 a ∧ c21 = .int .i64 b := by
    obtain ⟨fuel, hf⟩ := h2
    obtain ⟨xs, m, rfl, _, _, hxl, hel⟩ := DataW.trod_array Try.underlying72 hf
    obtain ⟨y0, y1, rfl⟩ := list2' xs hxl
    have e0 := hel 0 (by decide)
    have e1 := hel 1 (by decide)
    simp [Value.cells, show Try.prog.cellsOf 3 = 1 from by kernel_rfl] at e0 e1
    obtain ⟨x0, f0, _⟩ := DataW.trod_int Try.underlying3 e0
    obtain ⟨x1, f1, _⟩ := DataW.trod_int Try.underlying3 e1
    simp at f0 f1
    exact ⟨x0, x1, f0, f1⟩
  clear hA0 hval0
  refine (walk C0 C1 a2 b2 W w0 w1).mono fun e W' ⟨he, bel⟩ => ?_
  subst he
  exact ⟨_, rfl, _, _, _, [], _, [], hW', trodAll_mk1 (shut_bool Try.underlying4 _), (trodAll_cons_mk (Below.trod laidOut (by kernel_rfl) (of_decide_eq_true (by kernel_rfl)) k0 bel lt0) (trodAll_cons_mk (Below.trod laidOut (by kernel_rfl) (of_decide_eq_true (by kernel_rfl)) k1 bel lt1) (trodAll_cons_mk (Below.trod laidOut (by kernel_rfl) (of_decide_eq_true (by kernel_rfl)) k2 bel lt2) trodAll_mk0))), rfl, bel.frame _, fun h => by cases h⟩

theorem over : Rows.helloReadsRow.holds Try.pinned (OpenSpec.ofChange Rows.helloReadsSpec) :=
  OpenClaim.holds_of_wide 7 Try.f7 rfl rfl rfl rfl rfl rfl rfl ⟨rfl, rfl, rfl, rfl, rfl⟩ rfl rfl rfl rfl rfl (by kernel_rfl) Try.func7 (by kernel_rfl)
    (of_decide_eq_true (by kernel_rfl)) (by unfold Func.isWrapper; first | (rw [if_pos (by decide +kernel)]; kernel_rfl) | (rw [if_neg (by decide +kernel)]; exact ⟨rfl, rfl⟩))
    (fun os started H enc _ => lifted os started H enc)

/-- The statement. -/
theorem proved : Rows.HelloReadsSaid := over
#print axioms proved
end Go.Proofs.Ytegmimnhkohaoaa.helloReads
