/-
  The contract of hello.PutServer. No condition.
-/
import Derived.Test.YtegmimnhkohaoaaHelS
namespace Go.Proofs.Ytegmimnhkohaoaa
open Go.RowKit Go.Kx
set_option linter.unusedVariables false
set_option linter.unusedSimpArgs false

attribute [local irreducible] wV wU wS
theorem nil_le : (([], false) : WS).1.length ≤ 70368744177664 := Nat.zero_le _
theorem nil_le4 : (([], false) : WS).1.length + 4 ≤ 70368744177664 := by rw [List.length_nil]; omega
theorem knownA1 : Known 70 := fun _ _ => by kernel_rfl
theorem knownA2 : Known 71 := fun _ _ => by kernel_rfl
theorem knownA3 : Known 73 := fun _ _ => by kernel_rfl
theorem knownA4 : Known 74 := fun _ _ => by kernel_rfl
theorem knownP1 : Known 33 := fun _ _ => by kernel_rfl

/-- What the closures put. -/
def yA1 (s : Sv) : WS := wU ([], false) s.ver 2
def yA2 (s : Sv) : WS := if s.retry then wU ([], false) s.grp 2 else wS ([], false) s.grp s.key
def yA3 (s : Sv) : WS := wV ([], false) s.cook 2 1 64
def yA4 (s : Sv) : WS := wU ([], false) s.psk 2

theorem a1_c (s : Sv) (z : S3) (M q : Nat) (w : World) (h : IsSv w M s z) (hB : Blk w q 33 (svV s z)) : Puts w 70 (rp q) (yA1 s) := by
  refine ⟨knownA1, fun r w1 hr hb hW => ?_⟩
  have c34 := (hB.below hb).c34 h
  go_enter Try.func70, Try.ntmps70
  go_wp2_with (go_at_call 30; refine (wuint_c r _ s.ver 2 _ hW nil_le).mono ?_; rintro e w2 ⟨rfl, hX, ho⟩)
  go_end0
  exact ⟨rfl, hX, ho⟩
theorem a4_c (s : Sv) (z : S3) (M q : Nat) (w : World) (h : IsSv w M s z) (hB : Blk w q 33 (svV s z)) : Puts w 74 (rp q) (yA4 s) := by
  refine ⟨knownA4, fun r w1 hr hb hW => ?_⟩
  have c39 := (hB.below hb).c39 h
  go_enter Try.func74, Try.ntmps74
  go_wp2_with (go_at_call 30; refine (wuint_c r _ s.psk 2 _ hW nil_le).mono ?_; rintro e w2 ⟨rfl, hX, ho⟩)
  go_end0
  exact ⟨rfl, hX, ho⟩
theorem a3_c (s : Sv) (z : S3) (M q : Nat) (w : World) (h : IsSv w M s z) (hM : M ≤ w.heap.size) (hB : Blk w q 33 (svV s z)) : Puts w 73 (rp q) (yA3 s) := by
  refine ⟨knownA3, fun r w1 hr hb hW => ?_⟩
  have c38 := (hB.below hb).c38 h
  have H3 := Lib.hid ((h.s3.below hb))
  clear h hb
  go_enter Try.func73, Try.ntmps73
  go_wp2_with (go_at_call 31; refine (wvec_c r _ _ _ _ s.cook 2 1 64 _ hW H3.out.1 (H3.out.2.1.mono (fun k _ hk => by omega)) H3.out.2.2 (by decide) nil_le).mono ?_; rintro e w2 ⟨rfl, hX, ho⟩)
  go_end0
  exact ⟨rfl, hX, ho⟩
theorem a2_c (s : Sv) (z : S3) (M q : Nat) (w : World) (h : IsSv w M s z) (hM : M ≤ w.heap.size) (hB : Blk w q 33 (svV s z)) : Puts w 71 (rp q) (yA2 s) := by
  refine ⟨knownA2, fun r w1 hr hb hW => ?_⟩
  have c35 := (hB.below hb).c35 h
  have c36 := (hB.below hb).c36 h
  have c37 := (hB.below hb).c37 h
  have H2 := Lib.hid ((h.s2.below hb))
  obtain ⟨re, hre⟩ : ∃ re, re = s.retry := ⟨_, rfl⟩
  have hy : yA2 s = if re then wU ([], false) s.grp 2 else wS ([], false) s.grp s.key := by rw [hre]; rfl
  have HY := Lib.hid hy
  rw [← hre] at c37
  clear h hb hre hy
  cases re
  · go_enter Try.func71, Try.ntmps71
    go_wp2_with (go_at_call 72; refine (wshare_c r _ s.grp _ _ _ s.key _ hW nil_le4 H2.out.1 (H2.out.2.1.mono (fun k _ hk => by omega)) H2.out.2.2).mono ?_; rintro e w2 ⟨rfl, hX, ho⟩)
    go_end0
    rw [HY.out, if_neg Bool.false_ne_true]
    exact ⟨rfl, hX, ho⟩
  · go_enter Try.func71, Try.ntmps71
    go_wp2_with (go_at_call 30; refine (wuint_c r _ s.grp 2 _ hW nil_le).mono ?_; rintro e w2 ⟨rfl, hX, ho⟩)
    go_end0
    rw [HY.out, if_pos trivial]
    exact ⟨rfl, hX, ho⟩

theorem wP_len (x y : WS) (kind : Int) (there : Bool) : (wP x kind there y).1.length ≤ x.1.length + 65541 := by
  unfold wP
  split
  · have h1 := wV_len (wU (wM x (!y.2)) kind 2) y.1 2 0 65535 (by decide)
    have h2 := wU_len (wM x (!y.2)) kind 2 (by decide)
    have h3 : (wM x (!y.2)).1.length = x.1.length := rfl
    omega
  · omega
/-- The extensions of a Server. -/
def wA (x : WS) (s : Sv) : WS := wP (wP (wP (wP x 43 true (yA1 s)) 51 (s.grp != 0) (yA2 s)) 44 (s.retry && decide (0 < s.cook.length)) (yA3 s)) 41 (decide (0 ≤ s.psk)) (yA4 s)
attribute [local irreducible] wP wN yA1 yA2 yA3 yA4

set_option maxHeartbeats 4000000 in
set_option maxRecDepth 100000 in
theorem answers_c (r : Nat) (x : WS) (s : Sv) (z : S3) (M : Nat) (w : World) (hr : Wr w r x) (hl : x.1.length + 300000 ≤ 70368744177664) (h : IsSv w M s z) (hMr : M ≤ r) : Calls Try.prog 34 #[rp r, .agg (svV s z)] w (WrR w r (wA x s)) := by
  have hlt := hr.lt
  have hB := Blk.new w 33 (svV s z)
  have hb0 : Below w.heap.size w (w.alloc (.cells (svV s z) 33)) := (Below.refl _ _).alloc (Nat.le_refl _) _
  have c35 := hB.c35 h
  have c37 := hB.c37 h
  have c38 := hB.c38 h
  have c39 := hB.c39 h
  have h1 := wP_len x (yA1 s) 43 true
  have h2 := wP_len (wP x 43 true (yA1 s)) (yA2 s) 51 (s.grp != 0)
  have h3 := wP_len (wP (wP x 43 true (yA1 s)) 51 (s.grp != 0) (yA2 s)) (yA3 s) 44 (s.retry && decide (0 < s.cook.length))
  have hws : wA x s = wP (wP (wP (wP x 43 true (yA1 s)) 51 (s.grp != 0) (yA2 s)) 44 (s.retry && decide (0 < s.cook.length)) (yA3 s)) 41 (decide (0 ≤ s.psk)) (yA4 s) := rfl
  obtain ⟨x1, hx1⟩ : ∃ x1, x1 = wP x 43 true (yA1 s) := ⟨_, rfl⟩
  rw [← hx1] at h1 h2 h3 hws
  obtain ⟨x2, hx2⟩ : ∃ x2, x2 = wP x1 51 (s.grp != 0) (yA2 s) := ⟨_, rfl⟩
  rw [← hx2] at h2 h3 hws
  obtain ⟨x3, hx3⟩ : ∃ x3, x3 = wP x2 44 (s.retry && decide (0 < s.cook.length)) (yA3 s) := ⟨_, rfl⟩
  rw [← hx3] at h3 hws
  have l3 := h.s3.1
  rw [l3] at hx3
  have HX := Lib.hid (And.intro hx1 (And.intro hx2 (And.intro hx3 hws)))
  have HB := Lib.hid (And.intro hB (And.intro (h.below hb0) (And.intro hb0 (hr.below hb0))))
  have hsz : (w.alloc (.cells (svV s z) 33)).heap.size = w.heap.size + 1 := World.size_alloc _ _
  clear hB hb0 h hr hx1 hx2 hx3 hws l3
  obtain ⟨w0, hw0⟩ : ∃ w0, w0 = w.alloc (.cells (svV s z) 33) := ⟨_, rfl⟩
  rw [← hw0] at c35 c37 c38 c39 HB hsz
  go_enter Try.func34, Try.ntmps34
  go_upto_region 1 with (fail)
  rw [← hw0]
  clear hw0
  have hst : ∀ (wa wb : World) (x' : WS), Blk wa w.heap.size 33 (svV s z) ∧ IsSv wa M s z ∧ w.heap.size < wa.heap.size → Wr wb r x' → Only (· = r) wa wb → Blk wb w.heap.size 33 (svV s z) ∧ IsSv wb M s z ∧ w.heap.size < wb.heap.size := by
    rintro wa wb x' ⟨h1, h2, h3⟩ h4 h5
    have := h5.size
    exact ⟨h1.only h5 (by omega), h2.only h5 (by intro k hk e; omega), by omega⟩
  have HST := Lib.hid hst
  clear hst
  go_wp2_with fail
  refine (wpart_c r x (yA1 s) 43 true _ _ _ HB.out.2.2.2 (by omega) (fun _ => a1_c s z M w.heap.size _ HB.out.2.1 HB.out.1)).mono ?_
  rintro e w1 ⟨rfl, hX1, ho1⟩
  rw [← HX.out.1] at hX1
  have hI1 := HST.out w0 w1 x1 ⟨HB.out.1, HB.out.2.1, by omega⟩ hX1 ho1
  have I1 := Lib.hid (And.intro hX1 (And.intro ((Only.of_below HB.out.2.2.1).then ho1) hI1))
  have c35 := hI1.1.c35 hI1.2.1
  clear hX1 ho1 hI1
  go_wp2_with fail
  refine (wpart_c r x1 (yA2 s) 51 _ _ _ _ I1.out.1 (by omega) (fun _ => a2_c s z M w.heap.size _ I1.out.2.2.2.1 (by have := I1.out.2.2.2.2; omega) I1.out.2.2.1)).mono ?_
  rintro e w2 ⟨rfl, hX2, ho2⟩
  rw [← HX.out.2.1] at hX2
  have hI2 := HST.out w1 w2 x2 I1.out.2.2 hX2 ho2
  have I2 := Lib.hid (And.intro hX2 (And.intro (I1.out.2.1.then ho2) hI2))
  have d37 := hI2.1.c37 hI2.2.1
  have d38 := hI2.1.c38 hI2.2.1
  clear hX2 ho2 hI2
  have hre : ∀ b, s.retry = b → x3 = wP x2 44 (b && decide (0 < z.n3)) (yA3 s) := by intro b hb; rw [HX.out.2.2.1, hb]
  have HRE := Lib.hid hre
  clear hre c35 c37 c38 c39
  obtain ⟨re, hre⟩ : ∃ re, re = s.retry := ⟨_, rfl⟩
  rw [← hre] at d37
  have HR2 := Lib.hid (HRE.out re hre.symm)
  clear hre HRE
  cases re <;> (
    go_wp2_with fail
    refine (wpart_c r x2 (yA3 s) 44 _ _ _ _ I2.out.1 (by omega) (fun _ => a3_c s z M w.heap.size _ I2.out.2.2.2.1 (by have := I2.out.2.2.2.2; omega) I2.out.2.2.1)).mono ?_
    rintro e w3 ⟨rfl, hX3, ho3⟩
    have hx3 := HR2.out
    simp only [Bool.false_and, Bool.true_and] at hx3
    rw [← hx3] at hX3
    clear hx3
    have hI3 := HST.out w2 w3 x3 I2.out.2.2 hX3 ho3
    have I3 := Lib.hid (And.intro hX3 (And.intro (I2.out.2.1.then ho3) hI3))
    have e39 := hI3.1.c39 hI3.2.1
    clear hX3 ho3 hI3
    go_wp2_with fail
    refine (wpart_c r x3 (yA4 s) 41 _ _ _ _ I3.out.1 (by omega) (fun _ => a4_c s z M w.heap.size _ I3.out.2.2.2.1 I3.out.2.2.1)).mono ?_
    rintro e w4 ⟨rfl, hX4, ho4⟩
    go_wp2
    go_end0
    rw [HX.out.2.2.2]
    exact ⟨rfl, hX4, I3.out.2.1.then ho4⟩)

set_option maxHeartbeats 4000000 in
set_option maxRecDepth 100000 in
theorem p1_c (s : Sv) (z : S3) (M q : Nat) (w : World) (h : IsSv w M s z) (hM : M ≤ w.heap.size) (hB : Blk w q 33 (svV s z)) : Puts w 33 (rp q) (wA ([], false) s) := by
  refine ⟨knownP1, fun r w1 hr hb hW => ?_⟩
  have HB := Lib.hid (And.intro (hB.below hb) (h.below hb))
  have hsz := svV_size h
  clear h hb hB
  go_enter Try.func33, Try.ntmps33
  go_wp2_with (first
    | (refine wpList_load_mid rfl 33 (.tmp 1) rfl q 0 rfl (svV s z).toList _ HB.out.1.range Try.underlying33 rfl (by rw [Array.length_toList, hsz]; exact Try.infoSv) ?_; rw [Array.toArray_toList])
    | (go_at_call 34; refine (answers_c r _ s z M _ hW (by rw [List.length_nil]; omega) HB.out.2 (by omega)).mono ?_; rintro e w2 ⟨rfl, hX, ho⟩))
  go_end0
  exact ⟨rfl, hX, ho⟩

/-- The greeting of a server, as the writer has it at the end. -/
def rndS (s : Sv) : List UInt8 := if s.retry then retryL else s.R
def putS (s : Sv) : WS :=
  let x2 := wU (wM ([], false) (fitsS s)) 771 2
  wN (wU (wU (wV (x2.1 ++ rndS s, x2.2) s.ses 1 0 32) s.suite 2) 0 1) (wA ([], false) s) 2

/-- What a Put tells. -/
def PutR (w : World) (x : WS) (e : Ending) (w' : World) : Prop := ((x.2 = true ∧ e = .returned (.tuple #[.slice none 0 0, .int .i64 1])) ∨ (x.2 = false ∧ ∃ g p n c, e = .returned (.tuple #[.slice p n c, .int .i64 0]) ∧ x.1.length = n ∧ w.heap.size ≤ g ∧ Own w' g (.slice p n c) x.1)) ∧ Below w.heap.size w w'

theorem ArrB.news {w : World} {r t : Nat} {xs : List UInt8} (h : ArrB w r t xs) : ∀ j u, (xs.map B8)[j]? = some u → w.cell? ((⟨r, 0, none⟩ : Addr).add j) = some u := by
  intro j u hu
  simp only [List.getElem?_map, Option.map_eq_some_iff] at hu
  obtain ⟨x, hx, rfl⟩ := hu
  obtain ⟨hj, rfl⟩ := List.getElem?_eq_some_iff.1 hx
  have e : (⟨r, 0, none⟩ : Addr).add j = ⟨r, 0 + j, none⟩ := by unfold Addr.add; split <;> simp_all
  rw [e, Nat.zero_add]
  exact h.c j hj
/-- A writer that stands in a new block, below which nothing turned. -/
def WB (w wx : World) (r : Nat) (x : WS) : Prop := Wr wx r x ∧ Below w.heap.size w wx ∧ w.heap.size ≤ r
theorem WB.step {w wx wy : World} {r : Nat} {x y : WS} (h : WB w wx r x) (h1 : Wr wy r y) (h2 : Only (· = r) wx wy) : WB w wy r y := ⟨h1, below_only h.2.1 h.2.1.size h2 (by intro k hk e; have := h.2.2; omega), h.2.2⟩

set_option maxHeartbeats 4000000 in
set_option maxRecDepth 100000 in
theorem putServer_c (s : Sv) (z : S3) (M : Nat) (w : World) (h : IsSv w M s z) (hM : M ≤ w.heap.size) : Calls Try.prog 9 #[.agg (svV s z)] w (PutR w (putS s)) := by
  have hB := Blk.new w 33 (svV s z)
  have hb0 : Below w.heap.size w (w.alloc (.cells (svV s z) 33)) := (Below.refl _ _).alloc (Nat.le_refl _) _
  have hsz := svV_size h
  have hz0 := World.size_alloc w (.cells (svV s z) 33)
  have hnew := Wr.new (w.alloc (.cells (svV s z) 33))
  have hb1 : Below (w.heap.size + 1) (w.alloc (.cells (svV s z) 33)) ((w.alloc (.cells (svV s z) 33)).alloc (.cells #[.slice none 0 0, .bool false] 80)) := (Below.refl _ _).alloc (by rw [hz0]; exact Nat.le_refl _) _
  rw [hz0] at hnew
  rw [← hz0] at hb1
  have hI : Blk ((w.alloc (.cells (svV s z) 33)).alloc (.cells #[.slice none 0 0, .bool false] 80)) w.heap.size 33 (svV s z) ∧ WB w ((w.alloc (.cells (svV s z) 33)).alloc (.cells #[.slice none 0 0, .bool false] 80)) (w.heap.size + 1) ([], false) :=
    ⟨hB.below hb1, hnew, hb0.trans (hb1.mono hb0.size), by omega⟩
  clear hB hb0 hnew hb1
  go_enter Try.func9, Try.ntmps9
  go_upto_region 2 with (fail)
  generalize (w.alloc (.cells (svV s z) 33)).alloc (.cells #[.slice none 0 0, .bool false] 80) = w1 at hI ⊢
  have hIs := h.below hI.2.2.1
  have H1 := Lib.hid (And.intro hI hIs)
  have hM1 := hI.2.2.1.size
  clear hI hIs
  go_upto_region 3 with (first
    | (refine wpList_load_mid rfl 33 (.tmp 1) rfl w.heap.size 0 rfl (svV s z).toList _ H1.out.1.1.range Try.underlying33 rfl (by rw [Array.length_toList, hsz]; exact Try.infoSv) ?_; rw [Array.toArray_toList])
    | (go_at_call 28; refine (fits_c s z M _ H1.out.2).mono ?_; rintro e w2 ⟨rfl, b2⟩; have H2 := Lib.hid (And.intro (H1.out.1.1.below b2) (And.intro (H1.out.1.2.1.below b2) (And.intro (H1.out.1.2.2.1.trans (b2.mono H1.out.1.2.2.1.size)) (H1.out.2.below b2)))); clear b2)
    | (go_at_call 27; refine (wr_must _ (fitsS s) ([], false) _ H2.out.2.1).mono ?_; rintro e w3 ⟨rfl, hX, ho⟩; have H3 := Lib.hid (And.intro (show WB w w3 (w.heap.size + 1) (wM ([], false) (fitsS s)) from (show WB w w2 (w.heap.size + 1) ([], false) from ⟨H2.out.2.1, H2.out.2.2.1, by omega⟩).step hX ho) (And.intro (H2.out.1.only ho (by omega)) (H2.out.2.2.2.only ho (by intro k hk e; omega)))); clear hX ho))
  clear H1 H2
  have hx0 : (wM ([], false) (fitsS s)).1.length = 0 := rfl
  have hput : putS s = wN (wU (wU (wV ((wU (wM ([], false) (fitsS s)) 771 2).1 ++ rndS s, (wU (wM ([], false) (fitsS s)) 771 2).2) s.ses 1 0 32) s.suite 2) 0 1) (wA ([], false) s) 2 := rfl
  have HPUT := Lib.hid hput
  clear hput
  generalize wM ([], false) (fitsS s) = x1 at *
  have hM3 := H3.out.1.2.1.size
  have hr3 := H3.out.1.1.lt
  have hb3 : w.heap.size < w3.heap.size := by omega
  have hZ := (ArrB.new w3 22 (List.replicate 32 0))
  have hB3 : Below w3.heap.size w3 (w3.alloc (.cells ((List.replicate 32 (0 : UInt8)).map B8).toArray 22)) := (Below.refl _ _).alloc (Nat.le_refl _) _
  have HZ := Lib.hid (And.intro hZ hB3)
  clear hZ hB3
  go_upto_region 4 with (first
    | (refine wpList_load_mid rfl 22 (.tmp 12) rfl w.heap.size 0 rfl (s.R.map B8) _ (H3.out.2.1.rnd h) Try.underlying22 rfl (by rw [List.length_map, h.len]; exact Try.infoB32) ?_)
    | (refine st_arrB rfl 22 (.tmp 5) _ rfl w3.heap.size s.R rfl rfl _ _ HZ.out.1 (by rw [h.len]; exact Try.infoB32) (by rw [h.len]; rfl) ?_; intro w5 hA5 hO5))
  have hB5 : Below w3.heap.size w3 w5 := below_only HZ.out.2 HZ.out.2.size hO5 (by intro k hk e; omega)
  have hs5 := hB5.size
  have c37 := (H3.out.2.1.below hB5).c37 h
  have H5 := Lib.hid (And.intro hA5 hB5)
  clear hA5 hO5 hB5
  obtain ⟨re, hre⟩ : ∃ re, re = s.retry := ⟨_, rfl⟩
  have hrn : rndS s = if re then retryL else s.R := by rw [hre]; rfl
  rw [← hre] at c37
  have HRN := Lib.hid hrn
  clear hrn hre
  go_upto_if 15 with (fail)
  go_cut [16] (fun v16 wx => ArrB wx w3.heap.size 22 (rndS s) ∧ Below w3.heap.size w3 wx)
  case first =>
    cases re
    · go_wp2
      go_meet
      rw [HRN.out, if_neg Bool.false_ne_true]
      exact H5.out
    · go_wp2_with (first
        | (go_at_call 29; refine (retry_c _).mono ?_; rintro e w6 ⟨rfl, b6⟩; have hA6 := H5.out.1.below b6; have HA6 := Lib.hid (And.intro hA6 b6); clear hA6 b6)
        | (refine st_arrB rfl 22 (.tmp 5) _ rfl w3.heap.size retryL rfl rfl _ _ HA6.out.1 (by rw [retryL_len]; exact Try.infoB32) (by rw [retryL_len]; exact h.len) ?_; intro w7 hA7 hO7))
      go_meet
      rw [HRN.out, if_pos trivial]
      have b6 := H5.out.2.trans (HA6.out.2.mono hs5)
      exact ⟨hA7, below_only b6 b6.size hO7 (by intro k hk e; omega)⟩
  case rest =>
    obtain ⟨wa, rfl⟩ : ∃ wa : World, wa = wc := ⟨_, rfl⟩
    obtain ⟨hA, hB⟩ := hcut
    have hlr : (rndS s).length = 32 := by unfold rndS; split; exact retryL_len; exact h.len
    have hW := H3.out.1.1.below hB
    have hsa := hB.size
    have HA := Lib.hid (And.intro hA (And.intro (show WB w wa (w.heap.size + 1) x1 from ⟨hW, H3.out.1.2.1.trans (hB.mono H3.out.1.2.1.size), by omega⟩) (And.intro (H3.out.2.1.below hB) (H3.out.2.2.below hB))))
    clear hA hB hW c37 H5 H3 HZ
    have hl2 := wU_len x1 771 2 (by decide)
    go_upto_region 7 with (go_at_call 30; refine (wuint_c _ x1 771 2 _ HA.out.2.1.1 (by omega)).mono ?_; rintro e w2 ⟨rfl, hX, ho⟩; have H2 := Lib.hid (And.intro (HA.out.1.only ho (by omega)) (And.intro (HA.out.2.1.step hX ho) (And.intro (HA.out.2.2.1.only ho (by omega)) (HA.out.2.2.2.only ho (by intro k hk e; omega))))); clear hX ho)
    obtain ⟨g, p, n, c, hbx, hn, hrg, hO⟩ := H2.out.2.1.1.ex
    have c0 := hbx.c0
    have f0 := hbx.fr 0
    have hs2 := H2.out.1.lt
    have hn2 : n ≤ 100 := by omega
    have HN := Lib.hid (ArrB.news H2.out.1)
    have HO := Lib.hid (And.intro (hO.row hn) (And.intro hbx hn))
    have hm32 : ((rndS s).map B8).length = 32 * 1 := by rw [List.length_map, hlr]
    have HM := Lib.hid hm32
    clear hO hbx hn hm32
    go_region_law ((refine step_append_row rfl _ _ 23 rfl 5 (.int .u8 0) 1 1 Try.underlying23 Try.info5 rfl (by decide) g (.slice p n c) n ((wU x1 771 2).1.map B8) (by simp [Act.eval, Act.put]) HO.out.1 ⟨w3.heap.size, 0, none⟩ 32 32 ((rndS s).map B8) (by simp [Act.eval, Act.put]) HM.out HN.out (oneCell_map _) (by simp only [maxLen]; omega) (by omega) w2.heap.size (by simp) ?_; intro g2 v2 w5 hrow hg2 hO5q; have hO5 : Only (· = g) w2 w5 := (by first | exact hO5q | exact ⟨hO5q.os, hO5q.tape, hO5q.output, hO5q.size, hO5q.block⟩); clear hO5q; have hx5 := HO.out.2.1.only hO5 (by omega); have f5 := hx5.fr 0; have c5 := hx5.c0; obtain ⟨p5, k5, rfl, -⟩ := Row.form hrow; have H5 := Lib.hid (And.intro hrow (And.intro hg2 (And.intro hO5 hx5))); clear hrow hg2 hO5 hx5))
    have hO6 : Own (w5.setCell ⟨w.heap.size + 1, 0, none⟩ (.slice p5 (n + 32) k5)) g2 (.slice p5 (n + 32) k5) ((wU x1 771 2).1 ++ rndS s) := by
      have h5 : Own w5 g2 (.slice p5 (n + 32) k5) ((wU x1 771 2).1 ++ rndS s) := by
        unfold Own
        rw [List.length_append, List.map_append, HO.out.2.2, hlr]
        exact H5.out.1
      exact h5.only ((Only.refl (fun k => k = w.heap.size + 1) w5).setCell _ _ (.inl rfl)) (by have := H5.out.2.1; omega)
    have hx6 := H5.out.2.2.2.set0 (.slice p5 (n + 32) k5)
    have hW6 : Wr (w5.setCell ⟨w.heap.size + 1, 0, none⟩ (.slice p5 (n + 32) k5)) (w.heap.size + 1) ((wU x1 771 2).1 ++ rndS s, (wU x1 771 2).2) :=
      ⟨g2, p5, n + 32, k5, hx6, by rw [List.length_append, HO.out.2.2, hlr], by have := H5.out.2.1; omega, hO6⟩
    have hO26 : Only (fun k => k = g ∨ k = w.heap.size + 1) w2 (w5.setCell ⟨w.heap.size + 1, 0, none⟩ (.slice p5 (n + 32) k5)) := (H5.out.2.2.1.mono (fun _ _ h => .inl h)).setCell _ _ (.inl (.inr rfl))
    have hB6 := H2.out.2.2.1.only hO26 (by omega)
    have hI6 := H2.out.2.2.2.only hO26 (by intro k hk e; omega)
    have hBel6 := below_only H2.out.2.1.2.1 H2.out.2.1.2.1.size hO26 (by intro k hk e; omega)
    have hx3l : ((wU x1 771 2).1 ++ rndS s).length ≤ 200 := by rw [List.length_append, HO.out.2.2, hlr]; omega
    have hput : putS s = wN (wU (wU (wV ((wU x1 771 2).1 ++ rndS s, (wU x1 771 2).2) s.ses 1 0 32) s.suite 2) 0 1) (wA ([], false) s) 2 := HPUT.out
    have h4l := wV_len ((wU x1 771 2).1 ++ rndS s, (wU x1 771 2).2) s.ses 1 0 32 (by decide)
    obtain ⟨x4, hx4⟩ : ∃ x4, x4 = wV ((wU x1 771 2).1 ++ rndS s, (wU x1 771 2).2) s.ses 1 0 32 := ⟨_, rfl⟩
    rw [← hx4] at hput h4l
    have h5l := wU_len x4 s.suite 2 (by decide)
    obtain ⟨x5, hx5⟩ : ∃ x5, x5 = wU x4 s.suite 2 := ⟨_, rfl⟩
    rw [← hx5] at hput h5l
    have h6l := wU_len x5 0 1 (by decide)
    obtain ⟨x6, hx6'⟩ : ∃ x6, x6 = wU x5 0 1 := ⟨_, rfl⟩
    rw [← hx6'] at hput h6l
    have HX := Lib.hid (And.intro hx4 (And.intro hx5 (And.intro hx6' hput)))
    have h4l' : x4.1.length ≤ 65737 := Nat.le_trans h4l (by show ((wU x1 771 2).1 ++ rndS s).length + 65537 ≤ _; omega)
    have H6 := Lib.hid (And.intro (show WB w (w5.setCell ⟨w.heap.size + 1, 0, none⟩ (.slice p5 (n + 32) k5)) (w.heap.size + 1) ((wU x1 771 2).1 ++ rndS s, (wU x1 771 2).2) from ⟨hW6, hBel6, by omega⟩) (And.intro hB6 hI6))
    have c32 := hB6.c32 h
    clear hx4 hx5 hx6' hput h4l hO6 hx6 hW6 hO26 hB6 hI6 hBel6 c0 f0 c5 f5 HN HM
    generalize w5.setCell ⟨w.heap.size + 1, 0, none⟩ (.slice p5 (n + 32) k5) = w6 at *
    go_wp2_with (first
      | (go_at_call 31; refine (wvec_c _ _ _ _ _ s.ses 1 0 32 _ H6.out.1.1 H6.out.2.2.s1.1 (H6.out.2.2.s1.2.1.mono (fun k _ hk => by omega)) H6.out.2.2.s1.2.2 (by decide) (by show ((wU x1 771 2).1 ++ rndS s).length ≤ _; omega)).mono ?_; rintro e w7 ⟨rfl, hX, ho⟩; rw [← HX.out.1] at hX; have H7 := Lib.hid (And.intro (H6.out.1.step hX ho) (And.intro (H6.out.2.1.only ho (by omega)) (H6.out.2.2.only ho (by intro k hk e; omega)))); have c33 := H7.out.2.1.c33 h; clear hX ho)
      | (go_at_call 30; have hq := H8; refine (wuint_c _ x5 0 1 _ H8.out.1.1 (by omega)).mono ?_; rintro e w9 ⟨rfl, hX, ho⟩; rw [← HX.out.2.2.1] at hX; have H9 := Lib.hid (And.intro (H8.out.1.step hX ho) (And.intro (H8.out.2.1.only ho (by omega)) (H8.out.2.2.only ho (by intro k hk e; omega)))); clear hX ho)
      | (go_at_call 30; refine (wuint_c _ x4 s.suite 2 _ H7.out.1.1 (by omega)).mono ?_; rintro e w8 ⟨rfl, hX, ho⟩; rw [← HX.out.2.1] at hX; have H8 := Lib.hid (And.intro (H7.out.1.step hX ho) (And.intro (H7.out.2.1.only ho (by omega)) (H7.out.2.2.only ho (by intro k hk e; omega)))); clear hX ho)
      | (go_at_call 32; refine (wnested_c _ x6 _ 2 _ _ _ H9.out.1.1 (by decide) (by omega) (p1_c s z M w.heap.size _ H9.out.2.2 (by have := H9.out.1.2.1.size; omega) H9.out.2.1)).mono ?_; rintro e w10 ⟨rfl, hX, ho⟩; rw [← HX.out.2.2.2] at hX; have H10 := Lib.hid (H9.out.1.step hX ho); clear hX ho)
      | (go_at_call 35; refine (wend_c _ _ _ H10.out.1).mono ?_; rintro e w11 ⟨rfl, hE⟩; rcases hE with ⟨he, rfl⟩ | ⟨he, g9, p9, n9, c9, rfl, hn9, hg9, hO9⟩))
    · go_ret2
      exact ⟨.inl ⟨he, rfl⟩, H10.out.2.1⟩
    · go_ret2
      exact ⟨.inr ⟨he, g9, p9, n9, c9, rfl, hn9, by omega, hO9⟩, H10.out.2.1⟩
end Go.Proofs.Ytegmimnhkohaoaa
