/-
  A State as the laws hand it over and back (to, From), and whether two are the same (relayref18.Same). Conditions: those of each theorem.
-/
import Derived.Test.YtfilngbedlkhjaaSnH
import Derived.Great.FillDense
import Derived.Stop.BytesEq
namespace Go.Kx
open Go.RowKit

theorem built_struct {P : Program} {t : TypeId} {fields : Array Field} {z : Value} {places : List (Nat × Nat)} (parts : List (Nat × Value)) (hz : (P.info? t).map (·.zero) = some (some z)) (hu : P.underlying t = some (.struct fields))
    (hp : fields.toList.mapM (fun f => (P.info? f.type).map fun i => (f.offset, i.size)) = some places) : P.built t parts = Instr.fill (places.toArray[·]?) z.cells parts := by
  unfold Program.built
  cases hi : P.info? t with
  | none => simp [hi] at hz
  | some it =>
    have h : it.zero = some z := by simpa [hi] using hz
    simp only [hu, h, hp]
theorem built_array {P : Program} {t e : TypeId} {n s : Nat} {z : Value} (parts : List (Nat × Value)) (hz : (P.info? t).map (·.zero) = some (some z)) (hu : P.underlying t = some (.array n e))
    (hs : (P.info? e).map (·.size) = some s) : P.built t parts = Instr.fill (fun i => some (i * s, s)) z.cells parts := by
  unfold Program.built
  cases hi : P.info? t with
  | none => simp [hi] at hz
  | some it =>
    cases he : P.info? e with
    | none => simp [he] at hs
    | some ie =>
      have h : it.zero = some z := by simpa [hi] using hz
      have h2 : ie.size = s := by simpa [he] using hs
      simp only [hu, h, he, h2]
/-- One part more is in. -/
theorem fill_next {place : Nat → Option (Nat × Nat)} {C A : Array Value} {o n i : Nat} {v : Value} (rest : List (Nat × Value)) (hp : place i = some (o, n)) (hv : v.cells = C.extract o (o + n)) (hC : o + n ≤ C.size) (hA : A.size = C.size) (hag : ∀ j, j < o → A[j]? = C[j]?) :
    ∃ A' : Array Value, Instr.fill place A ((i, v) :: rest) = Instr.fill place A' rest ∧ A'.size = C.size ∧ ∀ j, j < o + n → A'[j]? = C[j]? := by
  obtain ⟨h1, h2⟩ := Great.foldl_set o v.cells.toList 0 A
  have hsz : v.cells.size = n := by rw [hv]; simp; omega
  refine ⟨(v.cells.toList.zipIdx 0).foldl (fun cs (x : Value × Nat) => cs.setIfInBounds (o + x.2) x.1) A, ?_, by rw [h1, hA], ?_⟩
  · conv => lhs; unfold Instr.fill
    simp only [hp]
    rw [if_neg (by simp; omega)]
    congr 1
    rw [← Array.foldl_toList, Array.toList_zipIdx]
  · intro j hj
    rw [h2 j]
    simp only [Nat.add_zero, Array.length_toList, hsz]
    by_cases hjo : j < o
    · rw [if_neg (by omega)]
      exact hag j hjo
    · rw [if_pos ⟨by omega, hj, by omega⟩, hv]
      simp only [Array.getElem?_toList, Array.getElem?_extract]
      rw [if_pos (by omega)]
      congr 1
      omega
theorem ext_one {C : Array Value} {o : Nat} {v : Value} (h : C[o]? = some v) (h1 : v.cells = #[v]) : v.cells = C.extract o (o + 1) := by
  rw [h1]
  apply Array.ext_getElem?
  intro i
  rw [Array.getElem?_extract]
  have hs := (Array.getElem?_eq_some_iff.1 h).1
  by_cases hi : i = 0
  · subst hi
    rw [if_pos (by omega)]
    simpa using h.symm
  · rw [if_neg (by omega)]
    simp [hi]
theorem ext_len {C : Array Value} {N : Nat} (h : C.size = N) (o n : Nat) (ho : o + n ≤ N) : (C.extract o (o + n)).toList.length = n := by
  simp
  omega

/-- Two arrays of equal parts are equal. -/
theorem equal_array {P : Program} (w : World) (d : Nat) (t e : TypeId) (n s : Nat) (ht : P.underlying t = some (.array n e)) (hsz : ∀ w, (sizeOf e).run P w = .ok s w) (X : Array Value)
    (h : ∀ i, i < n → ∃ v, (part e X (i * s)).run P w = .ok v w ∧ (Op.equalIn d e v v).run P w = .ok true w) :
    (Op.equalIn (d + 1) t (.agg X) (.agg X)).run P w = .ok true w := by
  rw [Op.equalIn]
  simp only [Sem.run_bind, run_underlying ht, Result.andThen_ok, hsz, Std.Legacy.Range.forIn_eq_forIn_range', Std.Legacy.Range.size, Nat.sub_zero, Nat.add_sub_cancel, Nat.div_one]
  have hl : ∀ i ∈ List.range' 0 n 1, i < n := fun i hi => by simpa using (List.mem_range'_1.1 hi).2
  generalize List.range' 0 n 1 = l at hl ⊢
  induction l with
  | nil => simp
  | cons i l ih =>
    obtain ⟨v, px, pe⟩ := h i (hl i (by simp))
    simp only [List.forIn_cons, Sem.run_bind, px, pe, Result.andThen_ok]
    simp only [Bool.not_true, Bool.false_eq_true, if_false, Sem.run_pure, Result.andThen_ok]
    exact ih fun j hj => hl j (by simp [hj])
end Go.Kx
namespace Go.Proofs.Ytfilngbedlkhjaa
open Go.RowKit Go.Kx
set_option linter.unusedVariables false
set_option linter.unusedSimpArgs false

theorem Try.infoR : (Try.prog.info? 26).map (·.size) = some 234 := by kernel_rfl
theorem Try.info32 : (Try.prog.info? 23).map (·.size) = some 32 := by kernel_rfl
theorem Try.info224 : (Try.prog.info? 24).map (·.size) = some 224 := by kernel_rfl
theorem Try.zero35 : (Try.prog.info? 35).map (·.zero) = some (some (.agg zC)) := by kernel_rfl
theorem Try.zero26 : (Try.prog.info? 26).map (·.zero) = some (some (.agg zC)) := by kernel_rfl
def z96 : Array Value := (List.replicate 96 (Value.int .u8 0)).toArray
def z224 : Array Value := (List.replicate 224 (Value.int .u8 0)).toArray
theorem Try.zero33 : (Try.prog.info? 33).map (·.zero) = some (some (.agg z96)) := by kernel_rfl
theorem Try.zero24 : (Try.prog.info? 24).map (·.zero) = some (some (.agg z224)) := by kernel_rfl
theorem z96_size : z96.size = 96 := by kernel_rfl
theorem z224_size : z224.size = 224 := by kernel_rfl

theorem built33 {C : Array Value} (h : C.size = 234) : Try.prog.built 33 [(0, .agg (C.extract 34 66)), (1, .agg (C.extract 66 98)), (2, .agg (C.extract 98 130))] = some (C.extract 34 130) := by
  rw [built_struct (places := [(0, 32), (32, 32), (64, 32)]) _ Try.zero33 Try.underlying33 (by kernel_rfl)]
  have hs : (C.extract 34 130).size = 96 := by simp; omega
  obtain ⟨A1, f1, s1, g1⟩ := fill_next (place := ([(0, 32), (32, 32), (64, 32)].toArray[·]?)) (C := C.extract 34 130) (A := (Value.agg z96).cells) (o := 0) (n := 32) (i := 0) (v := .agg (C.extract 34 66)) [(1, .agg (C.extract 66 98)), (2, .agg (C.extract 98 130))] rfl (by simp [Value.cells, Array.extract_extract]) (by omega) (by rw [hs]; exact z96_size) (fun j hj => absurd hj (by omega))
  obtain ⟨A2, f2, s2, g2⟩ := fill_next (place := ([(0, 32), (32, 32), (64, 32)].toArray[·]?)) (C := C.extract 34 130) (A := A1) (o := 32) (n := 32) (i := 1) (v := .agg (C.extract 66 98)) [(2, .agg (C.extract 98 130))] rfl (by simp [Value.cells, Array.extract_extract]) (by omega) s1 g1
  obtain ⟨A3, f3, s3, g3⟩ := fill_next (place := ([(0, 32), (32, 32), (64, 32)].toArray[·]?)) (C := C.extract 34 130) (A := A2) (o := 64) (n := 32) (i := 2) (v := .agg (C.extract 98 130)) [] rfl (by simp [Value.cells, Array.extract_extract]) (by omega) s2 g2
  rw [f1, f2, f3]
  simp only [Instr.fill, Option.some.injEq]
  apply Array.ext_getElem?
  intro j
  by_cases hj : j < 96
  · exact g3 j hj
  · rw [Array.getElem?_eq_none (by omega), Array.getElem?_eq_none (by omega)]
theorem built24 {C : Array Value} (h : C.size = 234) : Try.prog.built 24 [(0, .agg (C.extract 2 34)), (1, .agg (C.extract 34 66)), (2, .agg (C.extract 66 98)), (3, .agg (C.extract 98 130)), (4, .agg (C.extract 130 162)), (5, .agg (C.extract 162 194)), (6, .agg (C.extract 194 226))] = some (C.extract 2 226) := by
  rw [built_array (s := 32) _ Try.zero24 Try.underlying24 Try.info32]
  have hs : (C.extract 2 226).size = 224 := by simp; omega
  obtain ⟨A1, f1, s1, g1⟩ := fill_next (place := fun i => some (i * 32, 32)) (C := C.extract 2 226) (A := (Value.agg z224).cells) (o := 0) (n := 32) (i := 0) (v := .agg (C.extract 2 34)) [(1, .agg (C.extract 34 66)), (2, .agg (C.extract 66 98)), (3, .agg (C.extract 98 130)), (4, .agg (C.extract 130 162)), (5, .agg (C.extract 162 194)), (6, .agg (C.extract 194 226))] rfl (by simp [Value.cells, Array.extract_extract]) (by omega) (by rw [hs]; exact z224_size) (fun j hj => absurd hj (by omega))
  obtain ⟨A2, f2, s2, g2⟩ := fill_next (place := fun i => some (i * 32, 32)) (C := C.extract 2 226) (A := A1) (o := 32) (n := 32) (i := 1) (v := .agg (C.extract 34 66)) [(2, .agg (C.extract 66 98)), (3, .agg (C.extract 98 130)), (4, .agg (C.extract 130 162)), (5, .agg (C.extract 162 194)), (6, .agg (C.extract 194 226))] rfl (by simp [Value.cells, Array.extract_extract]) (by omega) s1 g1
  obtain ⟨A3, f3, s3, g3⟩ := fill_next (place := fun i => some (i * 32, 32)) (C := C.extract 2 226) (A := A2) (o := 64) (n := 32) (i := 2) (v := .agg (C.extract 66 98)) [(3, .agg (C.extract 98 130)), (4, .agg (C.extract 130 162)), (5, .agg (C.extract 162 194)), (6, .agg (C.extract 194 226))] rfl (by simp [Value.cells, Array.extract_extract]) (by omega) s2 g2
  obtain ⟨A4, f4, s4, g4⟩ := fill_next (place := fun i => some (i * 32, 32)) (C := C.extract 2 226) (A := A3) (o := 96) (n := 32) (i := 3) (v := .agg (C.extract 98 130)) [(4, .agg (C.extract 130 162)), (5, .agg (C.extract 162 194)), (6, .agg (C.extract 194 226))] rfl (by simp [Value.cells, Array.extract_extract]) (by omega) s3 g3
  obtain ⟨A5, f5, s5, g5⟩ := fill_next (place := fun i => some (i * 32, 32)) (C := C.extract 2 226) (A := A4) (o := 128) (n := 32) (i := 4) (v := .agg (C.extract 130 162)) [(5, .agg (C.extract 162 194)), (6, .agg (C.extract 194 226))] rfl (by simp [Value.cells, Array.extract_extract]) (by omega) s4 g4
  obtain ⟨A6, f6, s6, g6⟩ := fill_next (place := fun i => some (i * 32, 32)) (C := C.extract 2 226) (A := A5) (o := 160) (n := 32) (i := 5) (v := .agg (C.extract 162 194)) [(6, .agg (C.extract 194 226))] rfl (by simp [Value.cells, Array.extract_extract]) (by omega) s5 g5
  obtain ⟨A7, f7, s7, g7⟩ := fill_next (place := fun i => some (i * 32, 32)) (C := C.extract 2 226) (A := A6) (o := 192) (n := 32) (i := 6) (v := .agg (C.extract 194 226)) [] rfl (by simp [Value.cells, Array.extract_extract]) (by omega) s6 g6
  rw [f1, f2, f3, f4, f5, f6, f7]
  simp only [Instr.fill, Option.some.injEq]
  apply Array.ext_getElem?
  intro j
  by_cases hj : j < 224
  · exact g7 j hj
  · rw [Array.getElem?_eq_none (by omega), Array.getElem?_eq_none (by omega)]
theorem zC_size' : (Value.agg zC).cells.size = 234 := zC_size
set_option maxRecDepth 100000 in
theorem built35 {C : Array Value} {ph : Int} {lg : Value} {sm : List UInt8} {a b c d : Int} {sl : Bool} {pt us : Value} {al : Int} (h : StC C ph lg sm a b c d sl pt us al) (hlg : lg.cells = #[lg]) (hpt : pt.cells = #[pt]) (hus : us.cells = #[us]) :
    Try.prog.built 35 [(0, (.int .i64 ph)), (1, lg), (2, (.agg (C.extract 2 34))), (3, (.agg (C.extract 34 130))), (4, (.agg (C.extract 130 162))), (5, (.agg (C.extract 162 194))), (6, (.agg (C.extract 194 226))), (7, (.int .i64 a)), (8, (.int .i64 b)), (9, (.int .i64 c)), (10, (.int .i64 d)), (11, (.bool sl)), (12, pt), (13, us), (14, (.int .i64 al))] = some C := by
  rw [built_struct (places := [(0, 1), (1, 1), (2, 32), (34, 96), (130, 32), (162, 32), (194, 32), (226, 1), (227, 1), (228, 1), (229, 1), (230, 1), (231, 1), (232, 1), (233, 1)]) _ Try.zero35 Try.underlying35 (by kernel_rfl)]
  have hs := h.size
  obtain ⟨A0, f0, s0, g0⟩ := fill_next (place := ([(0, 1), (1, 1), (2, 32), (34, 96), (130, 32), (162, 32), (194, 32), (226, 1), (227, 1), (228, 1), (229, 1), (230, 1), (231, 1), (232, 1), (233, 1)].toArray[·]?)) (C := C) (A := (Value.agg zC).cells) (o := 0) (n := 1) (i := 0) (v := (.int .i64 ph)) [(1, lg), (2, (.agg (C.extract 2 34))), (3, (.agg (C.extract 34 130))), (4, (.agg (C.extract 130 162))), (5, (.agg (C.extract 162 194))), (6, (.agg (C.extract 194 226))), (7, (.int .i64 a)), (8, (.int .i64 b)), (9, (.int .i64 c)), (10, (.int .i64 d)), (11, (.bool sl)), (12, pt), (13, us), (14, (.int .i64 al))] rfl (ext_one h.e0 rfl) (by omega) (by rw [hs]; exact zC_size') (fun j hj => absurd hj (by omega))
  obtain ⟨A1, f1, s1, g1⟩ := fill_next (place := ([(0, 1), (1, 1), (2, 32), (34, 96), (130, 32), (162, 32), (194, 32), (226, 1), (227, 1), (228, 1), (229, 1), (230, 1), (231, 1), (232, 1), (233, 1)].toArray[·]?)) (C := C) (A := A0) (o := 1) (n := 1) (i := 1) (v := lg) [(2, (.agg (C.extract 2 34))), (3, (.agg (C.extract 34 130))), (4, (.agg (C.extract 130 162))), (5, (.agg (C.extract 162 194))), (6, (.agg (C.extract 194 226))), (7, (.int .i64 a)), (8, (.int .i64 b)), (9, (.int .i64 c)), (10, (.int .i64 d)), (11, (.bool sl)), (12, pt), (13, us), (14, (.int .i64 al))] rfl (ext_one h.e1 hlg) (by omega) s0 g0
  obtain ⟨A2, f2, s2, g2⟩ := fill_next (place := ([(0, 1), (1, 1), (2, 32), (34, 96), (130, 32), (162, 32), (194, 32), (226, 1), (227, 1), (228, 1), (229, 1), (230, 1), (231, 1), (232, 1), (233, 1)].toArray[·]?)) (C := C) (A := A1) (o := 2) (n := 32) (i := 2) (v := (.agg (C.extract 2 34))) [(3, (.agg (C.extract 34 130))), (4, (.agg (C.extract 130 162))), (5, (.agg (C.extract 162 194))), (6, (.agg (C.extract 194 226))), (7, (.int .i64 a)), (8, (.int .i64 b)), (9, (.int .i64 c)), (10, (.int .i64 d)), (11, (.bool sl)), (12, pt), (13, us), (14, (.int .i64 al))] rfl rfl (by omega) s1 g1
  obtain ⟨A3, f3, s3, g3⟩ := fill_next (place := ([(0, 1), (1, 1), (2, 32), (34, 96), (130, 32), (162, 32), (194, 32), (226, 1), (227, 1), (228, 1), (229, 1), (230, 1), (231, 1), (232, 1), (233, 1)].toArray[·]?)) (C := C) (A := A2) (o := 34) (n := 96) (i := 3) (v := (.agg (C.extract 34 130))) [(4, (.agg (C.extract 130 162))), (5, (.agg (C.extract 162 194))), (6, (.agg (C.extract 194 226))), (7, (.int .i64 a)), (8, (.int .i64 b)), (9, (.int .i64 c)), (10, (.int .i64 d)), (11, (.bool sl)), (12, pt), (13, us), (14, (.int .i64 al))] rfl rfl (by omega) s2 g2
  obtain ⟨A4, f4, s4, g4⟩ := fill_next (place := ([(0, 1), (1, 1), (2, 32), (34, 96), (130, 32), (162, 32), (194, 32), (226, 1), (227, 1), (228, 1), (229, 1), (230, 1), (231, 1), (232, 1), (233, 1)].toArray[·]?)) (C := C) (A := A3) (o := 130) (n := 32) (i := 4) (v := (.agg (C.extract 130 162))) [(5, (.agg (C.extract 162 194))), (6, (.agg (C.extract 194 226))), (7, (.int .i64 a)), (8, (.int .i64 b)), (9, (.int .i64 c)), (10, (.int .i64 d)), (11, (.bool sl)), (12, pt), (13, us), (14, (.int .i64 al))] rfl rfl (by omega) s3 g3
  obtain ⟨A5, f5, s5, g5⟩ := fill_next (place := ([(0, 1), (1, 1), (2, 32), (34, 96), (130, 32), (162, 32), (194, 32), (226, 1), (227, 1), (228, 1), (229, 1), (230, 1), (231, 1), (232, 1), (233, 1)].toArray[·]?)) (C := C) (A := A4) (o := 162) (n := 32) (i := 5) (v := (.agg (C.extract 162 194))) [(6, (.agg (C.extract 194 226))), (7, (.int .i64 a)), (8, (.int .i64 b)), (9, (.int .i64 c)), (10, (.int .i64 d)), (11, (.bool sl)), (12, pt), (13, us), (14, (.int .i64 al))] rfl rfl (by omega) s4 g4
  obtain ⟨A6, f6, s6, g6⟩ := fill_next (place := ([(0, 1), (1, 1), (2, 32), (34, 96), (130, 32), (162, 32), (194, 32), (226, 1), (227, 1), (228, 1), (229, 1), (230, 1), (231, 1), (232, 1), (233, 1)].toArray[·]?)) (C := C) (A := A5) (o := 194) (n := 32) (i := 6) (v := (.agg (C.extract 194 226))) [(7, (.int .i64 a)), (8, (.int .i64 b)), (9, (.int .i64 c)), (10, (.int .i64 d)), (11, (.bool sl)), (12, pt), (13, us), (14, (.int .i64 al))] rfl rfl (by omega) s5 g5
  obtain ⟨A7, f7, s7, g7⟩ := fill_next (place := ([(0, 1), (1, 1), (2, 32), (34, 96), (130, 32), (162, 32), (194, 32), (226, 1), (227, 1), (228, 1), (229, 1), (230, 1), (231, 1), (232, 1), (233, 1)].toArray[·]?)) (C := C) (A := A6) (o := 226) (n := 1) (i := 7) (v := (.int .i64 a)) [(8, (.int .i64 b)), (9, (.int .i64 c)), (10, (.int .i64 d)), (11, (.bool sl)), (12, pt), (13, us), (14, (.int .i64 al))] rfl (ext_one h.e226 rfl) (by omega) s6 g6
  obtain ⟨A8, f8, s8, g8⟩ := fill_next (place := ([(0, 1), (1, 1), (2, 32), (34, 96), (130, 32), (162, 32), (194, 32), (226, 1), (227, 1), (228, 1), (229, 1), (230, 1), (231, 1), (232, 1), (233, 1)].toArray[·]?)) (C := C) (A := A7) (o := 227) (n := 1) (i := 8) (v := (.int .i64 b)) [(9, (.int .i64 c)), (10, (.int .i64 d)), (11, (.bool sl)), (12, pt), (13, us), (14, (.int .i64 al))] rfl (ext_one h.e227 rfl) (by omega) s7 g7
  obtain ⟨A9, f9, s9, g9⟩ := fill_next (place := ([(0, 1), (1, 1), (2, 32), (34, 96), (130, 32), (162, 32), (194, 32), (226, 1), (227, 1), (228, 1), (229, 1), (230, 1), (231, 1), (232, 1), (233, 1)].toArray[·]?)) (C := C) (A := A8) (o := 228) (n := 1) (i := 9) (v := (.int .i64 c)) [(10, (.int .i64 d)), (11, (.bool sl)), (12, pt), (13, us), (14, (.int .i64 al))] rfl (ext_one h.e228 rfl) (by omega) s8 g8
  obtain ⟨A10, f10, s10, g10⟩ := fill_next (place := ([(0, 1), (1, 1), (2, 32), (34, 96), (130, 32), (162, 32), (194, 32), (226, 1), (227, 1), (228, 1), (229, 1), (230, 1), (231, 1), (232, 1), (233, 1)].toArray[·]?)) (C := C) (A := A9) (o := 229) (n := 1) (i := 10) (v := (.int .i64 d)) [(11, (.bool sl)), (12, pt), (13, us), (14, (.int .i64 al))] rfl (ext_one h.e229 rfl) (by omega) s9 g9
  obtain ⟨A11, f11, s11, g11⟩ := fill_next (place := ([(0, 1), (1, 1), (2, 32), (34, 96), (130, 32), (162, 32), (194, 32), (226, 1), (227, 1), (228, 1), (229, 1), (230, 1), (231, 1), (232, 1), (233, 1)].toArray[·]?)) (C := C) (A := A10) (o := 230) (n := 1) (i := 11) (v := (.bool sl)) [(12, pt), (13, us), (14, (.int .i64 al))] rfl (ext_one h.e230 rfl) (by omega) s10 g10
  obtain ⟨A12, f12, s12, g12⟩ := fill_next (place := ([(0, 1), (1, 1), (2, 32), (34, 96), (130, 32), (162, 32), (194, 32), (226, 1), (227, 1), (228, 1), (229, 1), (230, 1), (231, 1), (232, 1), (233, 1)].toArray[·]?)) (C := C) (A := A11) (o := 231) (n := 1) (i := 12) (v := pt) [(13, us), (14, (.int .i64 al))] rfl (ext_one h.e231 hpt) (by omega) s11 g11
  obtain ⟨A13, f13, s13, g13⟩ := fill_next (place := ([(0, 1), (1, 1), (2, 32), (34, 96), (130, 32), (162, 32), (194, 32), (226, 1), (227, 1), (228, 1), (229, 1), (230, 1), (231, 1), (232, 1), (233, 1)].toArray[·]?)) (C := C) (A := A12) (o := 232) (n := 1) (i := 13) (v := us) [(14, (.int .i64 al))] rfl (ext_one h.e232 hus) (by omega) s12 g12
  obtain ⟨A14, f14, s14, g14⟩ := fill_next (place := ([(0, 1), (1, 1), (2, 32), (34, 96), (130, 32), (162, 32), (194, 32), (226, 1), (227, 1), (228, 1), (229, 1), (230, 1), (231, 1), (232, 1), (233, 1)].toArray[·]?)) (C := C) (A := A13) (o := 233) (n := 1) (i := 14) (v := (.int .i64 al)) [] rfl (ext_one h.e233 rfl) (by omega) s13 g13
  rw [f0, f1, f2, f3, f4, f5, f6, f7, f8, f9, f10, f11, f12, f13, f14]
  simp only [Instr.fill, Option.some.injEq]
  apply Array.ext_getElem?
  intro j
  by_cases hj : j < 234
  · exact g14 j hj
  · rw [Array.getElem?_eq_none (by omega), Array.getElem?_eq_none (by omega)]
set_option maxRecDepth 100000 in
theorem built26 {C : Array Value} {ph : Int} {lg : Value} {sm : List UInt8} {a b c d : Int} {sl : Bool} {pt us : Value} {al : Int} (h : StC C ph lg sm a b c d sl pt us al) (hlg : lg.cells = #[lg]) (hpt : pt.cells = #[pt]) (hus : us.cells = #[us]) :
    Try.prog.built 26 [(0, (.int .i64 ph)), (1, lg), (2, (.agg (C.extract 2 226))), (3, (.int .i64 a)), (4, (.int .i64 b)), (5, (.int .i64 c)), (6, (.int .i64 d)), (7, (.bool sl)), (8, pt), (9, us), (10, (.int .i64 al))] = some C := by
  rw [built_struct (places := [(0, 1), (1, 1), (2, 224), (226, 1), (227, 1), (228, 1), (229, 1), (230, 1), (231, 1), (232, 1), (233, 1)]) _ Try.zero26 Try.underlying26 (by kernel_rfl)]
  have hs := h.size
  obtain ⟨A0, f0, s0, g0⟩ := fill_next (place := ([(0, 1), (1, 1), (2, 224), (226, 1), (227, 1), (228, 1), (229, 1), (230, 1), (231, 1), (232, 1), (233, 1)].toArray[·]?)) (C := C) (A := (Value.agg zC).cells) (o := 0) (n := 1) (i := 0) (v := (.int .i64 ph)) [(1, lg), (2, (.agg (C.extract 2 226))), (3, (.int .i64 a)), (4, (.int .i64 b)), (5, (.int .i64 c)), (6, (.int .i64 d)), (7, (.bool sl)), (8, pt), (9, us), (10, (.int .i64 al))] rfl (ext_one h.e0 rfl) (by omega) (by rw [hs]; exact zC_size') (fun j hj => absurd hj (by omega))
  obtain ⟨A1, f1, s1, g1⟩ := fill_next (place := ([(0, 1), (1, 1), (2, 224), (226, 1), (227, 1), (228, 1), (229, 1), (230, 1), (231, 1), (232, 1), (233, 1)].toArray[·]?)) (C := C) (A := A0) (o := 1) (n := 1) (i := 1) (v := lg) [(2, (.agg (C.extract 2 226))), (3, (.int .i64 a)), (4, (.int .i64 b)), (5, (.int .i64 c)), (6, (.int .i64 d)), (7, (.bool sl)), (8, pt), (9, us), (10, (.int .i64 al))] rfl (ext_one h.e1 hlg) (by omega) s0 g0
  obtain ⟨A2, f2, s2, g2⟩ := fill_next (place := ([(0, 1), (1, 1), (2, 224), (226, 1), (227, 1), (228, 1), (229, 1), (230, 1), (231, 1), (232, 1), (233, 1)].toArray[·]?)) (C := C) (A := A1) (o := 2) (n := 224) (i := 2) (v := (.agg (C.extract 2 226))) [(3, (.int .i64 a)), (4, (.int .i64 b)), (5, (.int .i64 c)), (6, (.int .i64 d)), (7, (.bool sl)), (8, pt), (9, us), (10, (.int .i64 al))] rfl rfl (by omega) s1 g1
  obtain ⟨A3, f3, s3, g3⟩ := fill_next (place := ([(0, 1), (1, 1), (2, 224), (226, 1), (227, 1), (228, 1), (229, 1), (230, 1), (231, 1), (232, 1), (233, 1)].toArray[·]?)) (C := C) (A := A2) (o := 226) (n := 1) (i := 3) (v := (.int .i64 a)) [(4, (.int .i64 b)), (5, (.int .i64 c)), (6, (.int .i64 d)), (7, (.bool sl)), (8, pt), (9, us), (10, (.int .i64 al))] rfl (ext_one h.e226 rfl) (by omega) s2 g2
  obtain ⟨A4, f4, s4, g4⟩ := fill_next (place := ([(0, 1), (1, 1), (2, 224), (226, 1), (227, 1), (228, 1), (229, 1), (230, 1), (231, 1), (232, 1), (233, 1)].toArray[·]?)) (C := C) (A := A3) (o := 227) (n := 1) (i := 4) (v := (.int .i64 b)) [(5, (.int .i64 c)), (6, (.int .i64 d)), (7, (.bool sl)), (8, pt), (9, us), (10, (.int .i64 al))] rfl (ext_one h.e227 rfl) (by omega) s3 g3
  obtain ⟨A5, f5, s5, g5⟩ := fill_next (place := ([(0, 1), (1, 1), (2, 224), (226, 1), (227, 1), (228, 1), (229, 1), (230, 1), (231, 1), (232, 1), (233, 1)].toArray[·]?)) (C := C) (A := A4) (o := 228) (n := 1) (i := 5) (v := (.int .i64 c)) [(6, (.int .i64 d)), (7, (.bool sl)), (8, pt), (9, us), (10, (.int .i64 al))] rfl (ext_one h.e228 rfl) (by omega) s4 g4
  obtain ⟨A6, f6, s6, g6⟩ := fill_next (place := ([(0, 1), (1, 1), (2, 224), (226, 1), (227, 1), (228, 1), (229, 1), (230, 1), (231, 1), (232, 1), (233, 1)].toArray[·]?)) (C := C) (A := A5) (o := 229) (n := 1) (i := 6) (v := (.int .i64 d)) [(7, (.bool sl)), (8, pt), (9, us), (10, (.int .i64 al))] rfl (ext_one h.e229 rfl) (by omega) s5 g5
  obtain ⟨A7, f7, s7, g7⟩ := fill_next (place := ([(0, 1), (1, 1), (2, 224), (226, 1), (227, 1), (228, 1), (229, 1), (230, 1), (231, 1), (232, 1), (233, 1)].toArray[·]?)) (C := C) (A := A6) (o := 230) (n := 1) (i := 7) (v := (.bool sl)) [(8, pt), (9, us), (10, (.int .i64 al))] rfl (ext_one h.e230 rfl) (by omega) s6 g6
  obtain ⟨A8, f8, s8, g8⟩ := fill_next (place := ([(0, 1), (1, 1), (2, 224), (226, 1), (227, 1), (228, 1), (229, 1), (230, 1), (231, 1), (232, 1), (233, 1)].toArray[·]?)) (C := C) (A := A7) (o := 231) (n := 1) (i := 8) (v := pt) [(9, us), (10, (.int .i64 al))] rfl (ext_one h.e231 hpt) (by omega) s7 g7
  obtain ⟨A9, f9, s9, g9⟩ := fill_next (place := ([(0, 1), (1, 1), (2, 224), (226, 1), (227, 1), (228, 1), (229, 1), (230, 1), (231, 1), (232, 1), (233, 1)].toArray[·]?)) (C := C) (A := A8) (o := 232) (n := 1) (i := 9) (v := us) [(10, (.int .i64 al))] rfl (ext_one h.e232 hus) (by omega) s8 g8
  obtain ⟨A10, f10, s10, g10⟩ := fill_next (place := ([(0, 1), (1, 1), (2, 224), (226, 1), (227, 1), (228, 1), (229, 1), (230, 1), (231, 1), (232, 1), (233, 1)].toArray[·]?)) (C := C) (A := A9) (o := 233) (n := 1) (i := 10) (v := (.int .i64 al)) [] rfl (ext_one h.e233 rfl) (by omega) s9 g9
  rw [f0, f1, f2, f3, f4, f5, f6, f7, f8, f9, f10]
  simp only [Instr.fill, Option.some.injEq]
  apply Array.ext_getElem?
  intro j
  by_cases hj : j < 234
  · exact g10 j hj
  · rw [Array.getElem?_eq_none (by omega), Array.getElem?_eq_none (by omega)]

theorem run_zeroT (w : World) : (zeroValue 26).run Try.prog w = .ok (.agg zC) w := (zero_of_info Try.zeroT).1 w

theorem wpList_build_eq {P : Program} {ops : Array Oper} {rest : List Oper} {o : Oper} {a : Act} {w : World} {Q : Exit → Act → World → Prop} (hg : o.guard = none) (t : TypeId) (parts : Array (Nat × Operand)) (ho : o.op = .build t parts)
    {C : Array Value} {l : List (Nat × Value)} (hl : (parts.map fun (i, x) => (i, a.eval x)).toList = l) (hf : P.built t l = some C)
    (h : wpList P ops Q rest (a.put o.dst (.agg C)) w) : wpList P ops Q (o :: rest) a w := by
  subst hl
  exact wpList_build hg t parts ho (by rw [hf]; rfl) (by rw [hf]; exact h)

/-- The parts of a State's cells, each by a name. -/
theorem parts_of {wx : World} {r : Nat} {t : TypeId} {C : Array Value} {ph : Int} {lg : Value} {sm : List UInt8} {a b c d : Int} {sl : Bool} {pt us : Value} {al : Int} (hb : wx.heap[r]? = some (.cells C t (0, 0))) (h : StC C ph lg sm a b c d sl pt us al) (hlg : lg.cells = #[lg]) (hpt : pt.cells = #[pt]) (hus : us.cells = #[us]) :
    ∃ S0 S1 S2 S3 S4 S5 S6 SM SA : Array Value, (wx.rangeAt r 2 S0.toList ∧ wx.rangeAt r 34 S1.toList ∧ wx.rangeAt r 66 S2.toList ∧ wx.rangeAt r 98 S3.toList ∧ wx.rangeAt r 130 S4.toList ∧ wx.rangeAt r 162 S5.toList ∧ wx.rangeAt r 194 S6.toList) ∧
      (S0.toList.length = 32 ∧ S1.toList.length = 32 ∧ S2.toList.length = 32 ∧ S3.toList.length = 32 ∧ S4.toList.length = 32 ∧ S5.toList.length = 32 ∧ S6.toList.length = 32) ∧
      Try.prog.built 33 [(0, .agg S1), (1, .agg S2), (2, .agg S3)] = some SM ∧
      Try.prog.built 35 [(0, .int .i64 ph), (1, lg), (2, .agg S0), (3, .agg SM), (4, .agg S4), (5, .agg S5), (6, .agg S6), (7, .int .i64 a), (8, .int .i64 b), (9, .int .i64 c), (10, .int .i64 d), (11, .bool sl), (12, pt), (13, us), (14, .int .i64 al)] = some C ∧
      Try.prog.built 24 [(0, .agg S0), (1, .agg S1), (2, .agg S2), (3, .agg S3), (4, .agg S4), (5, .agg S5), (6, .agg S6)] = some SA ∧
      Try.prog.built 26 [(0, .int .i64 ph), (1, lg), (2, .agg SA), (3, .int .i64 a), (4, .int .i64 b), (5, .int .i64 c), (6, .int .i64 d), (7, .bool sl), (8, pt), (9, us), (10, .int .i64 al)] = some C := by
  have hr := fun o => World.rangeAt_of_block hb o 32
  have hl := fun o (ho : o + 32 ≤ 234) => ext_len h.size o 32 ho
  exact ⟨C.extract 2 34, C.extract 34 66, C.extract 66 98, C.extract 98 130, C.extract 130 162, C.extract 162 194, C.extract 194 226, C.extract 34 130, C.extract 2 226, ⟨hr 2, hr 34, hr 66, hr 98, hr 130, hr 162, hr 194⟩, ⟨hl 2 (by omega), hl 34 (by omega), hl 66 (by omega), hl 98 (by omega), hl 130 (by omega), hl 162 (by omega), hl 194 (by omega)⟩, built33 h.size, built35 h hlg hpt hus, built24 h.size, built26 h hlg hpt hus⟩

set_option maxHeartbeats 4000000 in
set_option maxRecDepth 100000 in
theorem to_c (s : St) (C : Array Value) (w : World) (h : IsSt w C s) : Calls Try.prog 9 #[.agg C] w fun e w' => e = .returned (.agg C) ∧ Below w.heap.size w w' := by
  have hz := run_zeroS
  obtain ⟨lg, pt, us, hC, ⟨p1, n1, c1, rfl, -⟩, ⟨p2, n2, c2, rfl, -⟩, ⟨p3, n3, c3, rfl, -⟩⟩ := h
  have hbk : ((w.alloc (.cells C 26)).alloc (.cells zC 35)).heap[w.heap.size]? = some (.cells C 26 (0, 0)) := by
    rw [heap_alloc_old _ _ (by simp)]
    exact heap_alloc_new w _
  obtain ⟨e0, e1, e2, e3, e4, e5, e6, e7, e8, e9⟩ := blk_cells hbk hC
  obtain ⟨S0, S1, S2, S3, S4, S5, S6, SM, SA, r, l, b33, b35, b24, b26⟩ := parts_of hbk hC rfl rfl rfl
  have HB := Lib.hid (And.intro r (And.intro l (And.intro b33 (And.intro b35 (And.intro b24 b26)))))
  have hone : C.all (·.oneCell') = true := hC.one rfl rfl rfl
  have hlast : ((w.alloc (.cells C 26)).alloc (.cells zC 35)).heap[w.heap.size + 1]? = some (.cells zC 35 (0, 0)) := by
    have := heap_alloc_new (w.alloc (.cells C 26)) (.cells zC 35)
    rwa [World.size_alloc] at this
  have HO := Lib.hid (And.intro hone (And.intro hC.size hlast))
  clear hbk hC hone hlast r l b33 b35 b24 b26
  go_enter Try.func9, Try.ntmps9
  go_wp2_with (first
    | (refine wpList_load_mid rfl 23 (.tmp 8) rfl w.heap.size 2 rfl S0.toList _ HB.out.1.1 Try.underlying23 rfl (by rw [HB.out.2.1.1]; exact Try.info32) ?_; rw [Array.toArray_toList])
    | (refine wpList_load_mid rfl 23 (.tmp 11) rfl w.heap.size 34 rfl S1.toList _ HB.out.1.2.1 Try.underlying23 rfl (by rw [HB.out.2.1.2.1]; exact Try.info32) ?_; rw [Array.toArray_toList])
    | (refine wpList_load_mid rfl 23 (.tmp 14) rfl w.heap.size 66 rfl S2.toList _ HB.out.1.2.2.1 Try.underlying23 rfl (by rw [HB.out.2.1.2.2.1]; exact Try.info32) ?_; rw [Array.toArray_toList])
    | (refine wpList_load_mid rfl 23 (.tmp 17) rfl w.heap.size 98 rfl S3.toList _ HB.out.1.2.2.2.1 Try.underlying23 rfl (by rw [HB.out.2.1.2.2.2.1]; exact Try.info32) ?_; rw [Array.toArray_toList])
    | (refine wpList_load_mid rfl 23 (.tmp 21) rfl w.heap.size 130 rfl S4.toList _ HB.out.1.2.2.2.2.1 Try.underlying23 rfl (by rw [HB.out.2.1.2.2.2.2.1]; exact Try.info32) ?_; rw [Array.toArray_toList])
    | (refine wpList_load_mid rfl 23 (.tmp 24) rfl w.heap.size 162 rfl S5.toList _ HB.out.1.2.2.2.2.2.1 Try.underlying23 rfl (by rw [HB.out.2.1.2.2.2.2.2.1]; exact Try.info32) ?_; rw [Array.toArray_toList])
    | (refine wpList_load_mid rfl 23 (.tmp 27) rfl w.heap.size 194 rfl S6.toList _ HB.out.1.2.2.2.2.2.2 Try.underlying23 rfl (by rw [HB.out.2.1.2.2.2.2.2.2]; exact Try.info32) ?_; rw [Array.toArray_toList])
    | (refine wpList_build_eq (l := [(0, .agg S1), (1, .agg S2), (2, .agg S3)]) rfl 33 _ rfl (by simp [Act.eval, Act.put]) HB.out.2.2.1 ?_)
    | (refine wpList_build_eq (l := [(0, .int .i64 s.ph), (1, .slice p1 n1 c1), (2, .agg S0), (3, .agg SM), (4, .agg S4), (5, .agg S5), (6, .agg S6), (7, .int .i64 s.a), (8, .int .i64 s.b), (9, .int .i64 s.c), (10, .int .i64 s.d), (11, .bool s.sl), (12, .slice p2 n2 c2), (13, .slice p3 n3 c3), (14, .int .i64 s.al)]) rfl 35 _ rfl (by simp [Act.eval, Act.put]) HB.out.2.2.2.1 ?_)
    | (refine wpList_store_row rfl 35 (.tmp 2) (.tmp 45) rfl (w.heap.size + 1) C rfl rfl 35 zC HO.out.2.2 (by rw [HO.out.2.1]; exact Try.infoS) (by rw [HO.out.2.1, zC_size]) HO.out.1 ?_))
  have hB0 : Below w.heap.size w ((w.alloc (.cells C 26)).alloc (.cells zC 35)) := ((Below.refl _ _).alloc (Nat.le_refl _) _).alloc (by simp) _
  refine bodyPost_ret (v := .agg C) (results_cell_row (fn := Try.f9) rfl _ _ (w.heap.size + 1) 35 C (0, 0) _ rfl (setRow_heap _ _ zC C _ _ HO.out.2.2) Try.underlying35 rfl (by rw [HO.out.2.1]; exact Try.infoS)) rfl ⟨rfl, ?_⟩
  exact below_only hB0 (by simp; omega) (only_setRow (q := fun k => k = w.heap.size + 1) _ _ _ rfl) (by intro k hk e; omega)
set_option maxHeartbeats 4000000 in
set_option maxRecDepth 100000 in
theorem from_c (s : St) (C : Array Value) (w : World) (h : IsSt w C s) : Calls Try.prog 15 #[.agg C] w fun e w' => e = .returned (.agg C) ∧ Below w.heap.size w w' := by
  have hz := run_zeroT
  obtain ⟨lg, pt, us, hC, ⟨p1, n1, c1, rfl, -⟩, ⟨p2, n2, c2, rfl, -⟩, ⟨p3, n3, c3, rfl, -⟩⟩ := h
  have hbk : ((w.alloc (.cells C 35)).alloc (.cells zC 26)).heap[w.heap.size]? = some (.cells C 35 (0, 0)) := by
    rw [heap_alloc_old _ _ (by simp)]
    exact heap_alloc_new w _
  obtain ⟨e0, e1, e2, e3, e4, e5, e6, e7, e8, e9⟩ := blk_cells hbk hC
  obtain ⟨S0, S1, S2, S3, S4, S5, S6, SM, SA, r, l, b33, b35, b24, b26⟩ := parts_of hbk hC rfl rfl rfl
  have HB := Lib.hid (And.intro r (And.intro l (And.intro b33 (And.intro b35 (And.intro b24 b26)))))
  have hone : C.all (·.oneCell') = true := hC.one rfl rfl rfl
  have hlast : ((w.alloc (.cells C 35)).alloc (.cells zC 26)).heap[w.heap.size + 1]? = some (.cells zC 26 (0, 0)) := by
    have := heap_alloc_new (w.alloc (.cells C 35)) (.cells zC 26)
    rwa [World.size_alloc] at this
  have HO := Lib.hid (And.intro hone (And.intro hC.size hlast))
  clear hbk hC hone hlast r l b33 b35 b24 b26
  go_enter Try.func15, Try.ntmps15
  go_wp2_with (first
    | (refine wpList_load_mid rfl 23 (.tmp 7) rfl w.heap.size 2 rfl S0.toList _ HB.out.1.1 Try.underlying23 rfl (by rw [HB.out.2.1.1]; exact Try.info32) ?_; rw [Array.toArray_toList])
    | (refine wpList_load_mid rfl 23 (.tmp 10) rfl w.heap.size 34 rfl S1.toList _ HB.out.1.2.1 Try.underlying23 rfl (by rw [HB.out.2.1.2.1]; exact Try.info32) ?_; rw [Array.toArray_toList])
    | (refine wpList_load_mid rfl 23 (.tmp 13) rfl w.heap.size 66 rfl S2.toList _ HB.out.1.2.2.1 Try.underlying23 rfl (by rw [HB.out.2.1.2.2.1]; exact Try.info32) ?_; rw [Array.toArray_toList])
    | (refine wpList_load_mid rfl 23 (.tmp 16) rfl w.heap.size 98 rfl S3.toList _ HB.out.1.2.2.2.1 Try.underlying23 rfl (by rw [HB.out.2.1.2.2.2.1]; exact Try.info32) ?_; rw [Array.toArray_toList])
    | (refine wpList_load_mid rfl 23 (.tmp 18) rfl w.heap.size 130 rfl S4.toList _ HB.out.1.2.2.2.2.1 Try.underlying23 rfl (by rw [HB.out.2.1.2.2.2.2.1]; exact Try.info32) ?_; rw [Array.toArray_toList])
    | (refine wpList_load_mid rfl 23 (.tmp 20) rfl w.heap.size 162 rfl S5.toList _ HB.out.1.2.2.2.2.2.1 Try.underlying23 rfl (by rw [HB.out.2.1.2.2.2.2.2.1]; exact Try.info32) ?_; rw [Array.toArray_toList])
    | (refine wpList_load_mid rfl 23 (.tmp 22) rfl w.heap.size 194 rfl S6.toList _ HB.out.1.2.2.2.2.2.2 Try.underlying23 rfl (by rw [HB.out.2.1.2.2.2.2.2.2]; exact Try.info32) ?_; rw [Array.toArray_toList])
    | (refine wpList_build_eq (l := [(0, .agg S0), (1, .agg S1), (2, .agg S2), (3, .agg S3), (4, .agg S4), (5, .agg S5), (6, .agg S6)]) rfl 24 _ rfl (by simp [Act.eval, Act.put]) HB.out.2.2.2.2.1 ?_)
    | (refine wpList_build_eq (l := [(0, .int .i64 s.ph), (1, .slice p1 n1 c1), (2, .agg SA), (3, .int .i64 s.a), (4, .int .i64 s.b), (5, .int .i64 s.c), (6, .int .i64 s.d), (7, .bool s.sl), (8, .slice p2 n2 c2), (9, .slice p3 n3 c3), (10, .int .i64 s.al)]) rfl 26 _ rfl (by simp [Act.eval, Act.put]) HB.out.2.2.2.2.2 ?_)
    | (refine wpList_store_row rfl 26 (.tmp 2) (.tmp 41) rfl (w.heap.size + 1) C rfl rfl 26 zC HO.out.2.2 (by rw [HO.out.2.1]; exact Try.infoR) (by rw [HO.out.2.1, zC_size]) HO.out.1 ?_))
  have hB0 : Below w.heap.size w ((w.alloc (.cells C 35)).alloc (.cells zC 26)) := ((Below.refl _ _).alloc (Nat.le_refl _) _).alloc (by simp) _
  refine bodyPost_ret (v := .agg C) (results_cell_row (fn := Try.f15) rfl _ _ (w.heap.size + 1) 26 C (0, 0) _ rfl (setRow_heap _ _ zC C _ _ HO.out.2.2) Try.underlying26 rfl (by rw [HO.out.2.1]; exact Try.infoR)) rfl ⟨rfl, ?_⟩
  exact below_only hB0 (by simp; omega) (only_setRow (q := fun k => k = w.heap.size + 1) _ _ _ rfl) (by intro k hk e; omega)
end Go.Proofs.Ytfilngbedlkhjaa
