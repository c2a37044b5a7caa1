/-
  What the closures of hello.PutClient put that hold others: shares and tickets. Conditions: those of Fit.
-/
import Derived.Test.YtegmimnhkohaoaaZg4
import Derived.Test.YtegmimnhkohaoaaZg1
import Derived.Maps.OwnOps
import Derived.Maps.Views
import Derived.WalkArith
import Derived.Test.YtegmimnhkohaoaaZg2
import Derived.Deep.LoopGhost
import Derived.WalkKit
import Derived.Deep.RegionLaw
namespace Go.Proofs.Ytegmimnhkohaoaa
open Go.RowKit Go.Kx
set_option linter.unusedVariables false
set_option linter.unusedSimpArgs false
set_option maxRecDepth 100000
theorem wN_le (x y : WS) : (wN x y 2).1.length ≤ x.1.length + 65537 := by
  unfold wN
  have h := wV_len (wM x (!y.2)) y.1 2 0 65535 (by decide)
  have h2 : (wM x (!y.2)).1.length = x.1.length := rfl
  omega
attribute [local irreducible] wV wU wS wL wN wSh wId wB
set_option maxHeartbeats 8000000 in
theorem pc41_c (s : Cl) (z : Z10) (M q : Nat) (w : World) (h : IsCl w (· < M) s z) (hM : M ≤ w.heap.size) (hB : Blk w q 56 (clV s z)) (hf : Fit s) : Puts w 91 (rp q) (wSh ([], false) s.shs) := by
  refine ⟨fun _ _ => by kernel_rfl, fun r w1 hr hb hW => ?_⟩
  have c := (hB.below hb).d37 h.len
  have hsn : s.shs.length ≤ 1099511627776 := by have := hf.f5; omega
  have hs5 := (h.below hb).s6
  have hlen : s.shs.length = z.n6 := hs5.1
  have H0 := Lib.hid (And.intro hW (And.intro hs5.2.1 (And.intro hlen hf.f5)))
  have hrl := hW.lt
  have hnz : z.n6 ≤ 1099511627776 := by omega
  clear h hf hB hb hW hs5
  generalize z.p6 = p5 at *
  generalize z.c6 = c5 at *
  generalize z.n6 = n5 at *
  subst hlen
  go_enter Try.func91, Try.ntmps91
  go_upto_region 1 with (fail)
  go_loopw [8] (fun v8 wr => ∃ i : Nat, i ≤ s.shs.length ∧ v8 = .int .i64 (i : Int) ∧ Wr wr r (wSh ([], false) (s.shs.take i)) ∧ Only (· = r) w1 wr) (fun v8 _ => s.shs.length - (intOf v8).toNat)
  case atStart => exact ⟨0, Nat.zero_le _, rfl, by unfold wSh; exact H0.out.1, Only.refl _ _⟩
  case round =>
    obtain ⟨i, hi, rfl, hW', hO'⟩ := hrel
    have HW := Lib.hid (And.intro hW' hO')
    have hzr := hO'.size
    clear hW' hO'
    by_cases hlt : i < s.shs.length
    · obtain ⟨g, o, a, m, k, rfl, hS, hc, hd, hl, hrd, hnl⟩ := (H0.out.2.1.only HW.out.2 (by intro k hk e; omega)) i hlt
      have hts : s.shs.take (i + 1) = s.shs.take i ++ [s.shs[i]] := List.take_succ_eq_append_getElem hlt
      have hln := wSh_len (s.shs.take i) ([], false)
      have hlt2 : (s.shs.take i).length + 1 ≤ s.shs.length := by rw [List.length_take]; omega
      have hf5 := H0.out.2.2.2
      obtain ⟨v, hv⟩ : ∃ v, v = s.shs[i] := ⟨_, rfl⟩
      rw [← hv] at hts hl hrd hc
      obtain ⟨gr, ke⟩ := v
      simp only at hl hrd hc
      have HT := Lib.hid (And.intro hts (And.intro hl (And.intro (hrd.mono (T := (· < r)) (fun k hk h => by omega)) hnl)))
      have hbx := Box2.new wr 31 (.int .i64 gr) (.slice a m k)
      have hBz : Below wr.heap.size wr (wr.alloc (.cells #[.int .i64 gr, .slice a m k] 31)) := (Below.refl _ _).alloc (Nat.le_refl _) _
      have d0 := hbx.c0
      have d1 := hbx.c1
      have HX := Lib.hid hBz
      have hgr := World.block_lt_of_cell? wr _ hc
      have hxl : (wSh ([], false) (s.shs.take i)).1.length + 65541 ≤ 70368744177664 := by
        have e : (([], false) : WS).1.length = 0 := rfl
        rw [e] at hln
        omega
      clear hts hv hl hrd hnl hbx hBz hln hf5
      have HLT := Lib.hid hlt
      go_wp2_with (first
        | (go_at_call 72; refine (wshare_c r _ gr _ _ _ ke _ (HW.out.1.below HX.out) (by omega) HT.out.2.1 (HT.out.2.2.1.below HX.out) HT.out.2.2.2).mono ?_; rintro e w5 ⟨rfl, hX, ho⟩; have H5 := Lib.hid (And.intro hX ho); clear hX ho))
      refine ⟨⟨i + 1, by have := HLT.out; omega, by go_num, by rw [HT.out.1, wSh_snoc]; exact H5.out.1, HW.out.2.then ((Only.of_below HX.out).then H5.out.2)⟩, by have := HLT.out; simp [intOf]; omega⟩
    · obtain rfl : i = s.shs.length := by omega
      have htl : s.shs.take s.shs.length = s.shs := List.take_length
      have HTL := Lib.hid htl
      clear htl
      go_wp2
      go_end0
      have h := HW.out.1
      rw [HTL.out] at h
      exact ⟨rfl, h, HW.out.2⟩
set_option maxHeartbeats 8000000 in
theorem pc4_c (s : Cl) (z : Z10) (M q : Nat) (w : World) (h : IsCl w (· < M) s z) (hM : M ≤ w.heap.size) (hB : Blk w q 56 (clV s z)) (hf : Fit s) : Puts w 90 (rp q) (yC4 s) := by
  refine ⟨fun _ _ => by kernel_rfl, fun r w1 hr hb hW => ?_⟩
  have c := (hB.below hb).d37 h.len
  have hq := hB.lt
  have hrl := hW.lt
  have hlen : s.shs.length = z.n6 := h.s6.1
  have hbb : decide ((z.n6 : Int) ≤ 4) = decide (z.n6 ≤ 4) := by rw [Bool.eq_iff_iff]; simp; omega
  obtain ⟨b, hb4⟩ : ∃ b, b = decide (z.n6 ≤ 4) := ⟨_, rfl⟩
  have hy : yC4 s = wN (wM ([], false) b) (wSh ([], false) s.shs) 2 := by rw [hb4, ← hlen]; rfl
  have HI := Lib.hid (And.intro (h.below hb) (And.intro (hB.below hb) (And.intro hf (And.intro hy hW))))
  rw [← hb4] at hbb
  have hb5 := hb4.symm
  have hM1 : M ≤ w1.heap.size := Nat.le_trans hM hb.size
  clear h hB hf hb hW hlen hy hb4
  go_enter Try.func90, Try.ntmps90
  go_wp2_with (first
    | (go_at_call 27; refine (wr_must r b _ _ HI.out.2.2.2.2).mono ?_; rintro e w2 ⟨rfl, hX, ho⟩; have H2 := Lib.hid (And.intro hX (And.intro ho (And.intro (HI.out.1.only ho (by intro k hk e; omega)) (HI.out.2.1.only ho (by omega))))); have hz2 := ho.size; clear hX ho)
    | (go_at_call 32; refine (wnested_c r _ _ 2 _ _ _ H2.out.1 (by decide) nil_le (pc41_c s z M q _ H2.out.2.2.1 (by omega) H2.out.2.2.2 HI.out.2.2.1)).mono ?_; rintro e w3 ⟨rfl, hX, ho⟩; have H3 := Lib.hid (And.intro hX ho); clear hX ho))
  go_end0
  rw [HI.out.2.2.2.1]
  exact ⟨rfl, H3.out.1, H2.out.2.1.then H3.out.2⟩
theorem pc71_c (s : Cl) (z : Z10) (M q : Nat) (w : World) (h : IsCl w (· < M) s z) (hM : M ≤ w.heap.size) (hB : Blk w q 56 (clV s z)) (hf : Fit s) : Puts w 95 (rp q) (wId (wM ([], false) (decide (s.ids.length ≤ 4))) s.ids) := by
  refine ⟨fun _ _ => by kernel_rfl, fun r w1 hr hb hW => ?_⟩
  have c := (hB.below hb).d40 h.len
  have hlen : s.ids.length = z.n9 := h.s9.1
  have hf6 := hf.f6
  rw [hlen] at hf6
  have e0 : (([], false) : WS).1.length = 0 := rfl
  have H0 := Lib.hid (And.intro hW (And.intro ((h.below hb).s9.2.1.mono (T := (· ≠ r)) (fun k _ hk => by omega)) (And.intro hlen (And.intro hf6 e0))))
  rw [hlen]
  clear h hf hB hb hW hlen hf6 e0
  go_enter Try.func95, Try.ntmps95
  go_wp2_with (go_at_call 96; refine (wids_c r ([], false) _ z.n9 _ s.ids _ H0.out.1 H0.out.2.1 H0.out.2.2.1 (by have h1 := H0.out.2.2.2.1; have h2 := H0.out.2.2.2.2; rw [h2]; omega)).mono ?_; rintro e w2 ⟨rfl, hX, ho⟩; have H2 := Lib.hid (And.intro hX ho); clear hX ho)
  go_end0
  exact ⟨rfl, H2.out.1, H2.out.2⟩
theorem pc72_c (s : Cl) (z : Z10) (M q : Nat) (w : World) (h : IsCl w (· < M) s z) (hM : M ≤ w.heap.size) (hB : Blk w q 56 (clV s z)) (hf : Fit s) : Puts w 97 (rp q) (wB ([], false) s.bnd) := by
  refine ⟨fun _ _ => by kernel_rfl, fun r w1 hr hb hW => ?_⟩
  have c := (hB.below hb).d41 h.len
  have hlen : s.bnd.length = z.n10 := h.s10.1
  have hf7 := hf.f7
  rw [hlen] at hf7
  have e0 : (([], false) : WS).1.length = 0 := rfl
  have H0 := Lib.hid (And.intro hW (And.intro ((h.below hb).s10.2.1.mono (T := (· ≠ r)) (fun k _ hk => by omega)) (And.intro hlen (And.intro hf7 e0))))
  clear h hf hB hb hW hlen hf7 e0
  go_enter Try.func97, Try.ntmps97
  go_wp2_with (go_at_call 98; refine (wbinders_c r ([], false) _ z.n10 _ s.bnd _ H0.out.1 H0.out.2.1 H0.out.2.2.1 (by have h1 := H0.out.2.2.2.1; omega) (by have h1 := H0.out.2.2.2.1; have h2 := H0.out.2.2.2.2; rw [h2]; omega)).mono ?_; rintro e w2 ⟨rfl, hX, ho⟩; have H2 := Lib.hid (And.intro hX ho); clear hX ho)
  go_end0
  exact ⟨rfl, H2.out.1, H2.out.2⟩
theorem pc7_c (s : Cl) (z : Z10) (M q : Nat) (w : World) (h : IsCl w (· < M) s z) (hM : M ≤ w.heap.size) (hB : Blk w q 56 (clV s z)) (hf : Fit s) : Puts w 94 (rp q) (yC7 s) := by
  refine ⟨fun _ _ => by kernel_rfl, fun r w1 hr hb hW => ?_⟩
  have hq := hB.lt
  have hrl := hW.lt
  have hM1 : M ≤ w1.heap.size := Nat.le_trans hM hb.size
  have hy : yC7 s = wN (wN ([], false) (wId (wM ([], false) (decide (s.ids.length ≤ 4))) s.ids) 2) (wB ([], false) s.bnd) 2 := rfl
  have hl := wN_le ([], false) (wId (wM ([], false) (decide (s.ids.length ≤ 4))) s.ids)
  have e0 : (([], false) : WS).1.length = 0 := rfl
  rw [e0] at hl
  have HI := Lib.hid (And.intro (h.below hb) (And.intro (hB.below hb) (And.intro hf (And.intro hy (And.intro hW hl)))))
  clear h hB hf hb hW hy hl e0
  go_enter Try.func94, Try.ntmps94
  go_wp2_with (first
    | (go_at_call 32; have hq2 := H2; refine (wnested_c r _ _ 2 _ _ _ H2.out.1 (by decide) (by have := HI.out.2.2.2.2.2; omega) (pc72_c s z M q _ H2.out.2.2.1 (by omega) H2.out.2.2.2 HI.out.2.2.1)).mono ?_; rintro e w3 ⟨rfl, hX, ho⟩; have H3 := Lib.hid (And.intro hX ho); clear hX ho)
    | (go_at_call 32; refine (wnested_c r _ _ 2 _ _ _ HI.out.2.2.2.2.1 (by decide) nil_le (pc71_c s z M q _ HI.out.1 hM1 HI.out.2.1 HI.out.2.2.1)).mono ?_; rintro e w2 ⟨rfl, hX, ho⟩; have H2 := Lib.hid (And.intro hX (And.intro ho (And.intro (HI.out.1.only ho (by intro k hk e; omega)) (HI.out.2.1.only ho (by omega))))); have hz2 := ho.size; clear hX ho))
  go_end0
  rw [HI.out.2.2.2.1]
  exact ⟨rfl, H3.out.1, H2.out.2.1.then H3.out.2⟩
end Go.Proofs.Ytegmimnhkohaoaa
/-
  The contract of hello.PutClient. Conditions: those of Fit.
-/
namespace Go.Proofs.Ytegmimnhkohaoaa
open Go.RowKit Go.Kx
set_option linter.unusedVariables false
set_option linter.unusedSimpArgs false
set_option maxRecDepth 100000

def xC1 (x : WS) (s : Cl) : WS := wP x 43 (decide (0 < s.vers.length)) (yC1 s)
def xC2 (x : WS) (s : Cl) : WS := wP (xC1 x s) 10 (decide (0 < s.grps.length)) (yC2 s)
def xC3 (x : WS) (s : Cl) : WS := wP (xC2 x s) 13 (decide (0 < s.schs.length)) (yC3 s)
def xC4 (x : WS) (s : Cl) : WS := wP (xC3 x s) 51 (decide (0 < s.shs.length)) (yC4 s)
def xC5 (x : WS) (s : Cl) : WS := wP (xC4 x s) 44 (decide (0 < s.cook.length)) (yC5 s)
def xC6 (x : WS) (s : Cl) : WS := wP (xC5 x s) 45 (decide (0 < s.modes.length)) (yC6 s)
def xC7 (x : WS) (s : Cl) : WS := wP (xC6 x s) 41 (decide (0 < s.ids.length)) (yC7 s)
attribute [local irreducible] wP wN wV wU wL yC1 yC2 yC3 yC4 yC5 yC6 yC7
set_option maxHeartbeats 8000000 in
theorem parts_c (r : Nat) (x : WS) (s : Cl) (z : Z10) (M : Nat) (w : World) (hr : Wr w r x) (hl : x.1.length + 600000 ≤ 70368744177664) (h : IsCl w (· < M) s z) (hMr : M ≤ r) (hf : Fit s) : Calls Try.prog 53 #[rp r, .agg (clV s z)] w (WrR w r (xC7 x s)) := by
  have hlt := hr.lt
  have hB := Blk.new w 56 (clV s z)
  have hb0 : Below w.heap.size w (w.alloc (.cells (clV s z) 56)) := (Below.refl _ _).alloc (Nat.le_refl _) _
  have hlen := h.len
  have h1 : (xC1 x s).1.length ≤ x.1.length + 65541 := wP_len _ _ _ _
  have e1 : decide (0 < s.vers.length) = decide (0 < z.n3) := by rw [h.s3.1]
  have h2 : (xC2 x s).1.length ≤ (xC1 x s).1.length + 65541 := wP_len _ _ _ _
  have e2 : decide (0 < s.grps.length) = decide (0 < z.n4) := by rw [h.s4.1]
  have h3 : (xC3 x s).1.length ≤ (xC2 x s).1.length + 65541 := wP_len _ _ _ _
  have e3 : decide (0 < s.schs.length) = decide (0 < z.n5) := by rw [h.s5.1]
  have h4 : (xC4 x s).1.length ≤ (xC3 x s).1.length + 65541 := wP_len _ _ _ _
  have e4 : decide (0 < s.shs.length) = decide (0 < z.n6) := by rw [h.s6.1]
  have h5 : (xC5 x s).1.length ≤ (xC4 x s).1.length + 65541 := wP_len _ _ _ _
  have e5 : decide (0 < s.cook.length) = decide (0 < z.n7) := by rw [h.s7.1]
  have h6 : (xC6 x s).1.length ≤ (xC5 x s).1.length + 65541 := wP_len _ _ _ _
  have e6 : decide (0 < s.modes.length) = decide (0 < z.n8) := by rw [h.s8.1]
  have h7 : (xC7 x s).1.length ≤ (xC6 x s).1.length + 65541 := wP_len _ _ _ _
  have e7 : decide (0 < s.ids.length) = decide (0 < z.n9) := by rw [h.s9.1]
  obtain ⟨x1, hx1⟩ : ∃ y, y = xC1 x s := ⟨_, rfl⟩
  have hp1 : x1 = wP x 43 (decide (0 < z.n3)) (yC1 s) := by rw [hx1]; unfold xC1; rw [e1]
  obtain ⟨x2, hx2⟩ : ∃ y, y = xC2 x s := ⟨_, rfl⟩
  have hp2 : x2 = wP x1 10 (decide (0 < z.n4)) (yC2 s) := by rw [hx2, hx1]; unfold xC2; rw [e2]
  obtain ⟨x3, hx3⟩ : ∃ y, y = xC3 x s := ⟨_, rfl⟩
  have hp3 : x3 = wP x2 13 (decide (0 < z.n5)) (yC3 s) := by rw [hx3, hx2]; unfold xC3; rw [e3]
  obtain ⟨x4, hx4⟩ : ∃ y, y = xC4 x s := ⟨_, rfl⟩
  have hp4 : x4 = wP x3 51 (decide (0 < z.n6)) (yC4 s) := by rw [hx4, hx3]; unfold xC4; rw [e4]
  obtain ⟨x5, hx5⟩ : ∃ y, y = xC5 x s := ⟨_, rfl⟩
  have hp5 : x5 = wP x4 44 (decide (0 < z.n7)) (yC5 s) := by rw [hx5, hx4]; unfold xC5; rw [e5]
  obtain ⟨x6, hx6⟩ : ∃ y, y = xC6 x s := ⟨_, rfl⟩
  have hp6 : x6 = wP x5 45 (decide (0 < z.n8)) (yC6 s) := by rw [hx6, hx5]; unfold xC6; rw [e6]
  obtain ⟨x7, hx7⟩ : ∃ y, y = xC7 x s := ⟨_, rfl⟩
  have hp7 : x7 = wP x6 41 (decide (0 < z.n9)) (yC7 s) := by rw [hx7, hx6]; unfold xC7; rw [e7]
  rw [← hx1] at h1 h2
  rw [← hx2] at h2 h3
  rw [← hx3] at h3 h4
  rw [← hx4] at h4 h5
  rw [← hx5] at h5 h6
  rw [← hx6] at h6 h7
  rw [← hx7] at h7 ⊢
  have HX := Lib.hid (And.intro hp1 (And.intro hp2 (And.intro hp3 (And.intro hp4 (And.intro hp5 (And.intro hp6 hp7))))))
  clear hp1 hx1 e1 hp2 hx2 e2 hp3 hx3 e3 hp4 hx4 e4 hp5 hx5 e5 hp6 hx6 e6 hp7 hx7 e7
  have HB := Lib.hid (And.intro hB (And.intro (h.below hb0) (And.intro hb0 (hr.below hb0))))
  have hsz : (w.alloc (.cells (clV s z) 56)).heap.size = w.heap.size + 1 := World.size_alloc _ _
  clear hB hb0 h hr
  go_enter Try.func53, Try.ntmps53
  go_upto_region 1 with (fail)
  generalize w.alloc (.cells (clV s z) 56) = w0 at *
  have hst : ∀ (wa wb : World) (x' : WS), Blk wa w.heap.size 56 (clV s z) ∧ IsCl wa (· < M) s z ∧ w.heap.size < wa.heap.size → Wr wb r x' → Only (· = r) wa wb → Blk wb w.heap.size 56 (clV s z) ∧ IsCl wb (· < M) s z ∧ w.heap.size < wb.heap.size := by
    rintro wa wb x' ⟨h1, h2, h3⟩ h4 h5
    have := h5.size
    exact ⟨h1.only h5 (by omega), h2.only h5 (by intro k hk e; omega), by omega⟩
  have HST := Lib.hid hst
  have I0 := Lib.hid (show Wr w0 r x ∧ Only (· = r) w w0 ∧ (Blk w0 w.heap.size 56 (clV s z) ∧ IsCl w0 (· < M) s z ∧ w.heap.size < w0.heap.size) from ⟨HB.out.2.2.2, Only.of_below HB.out.2.2.1, HB.out.1, HB.out.2.1, by omega⟩)
  clear hst HB
  have c34 := I0.out.2.2.1.d34 hlen
  go_wp2_with fail
  refine (wpart_c r x (yC1 s) 43 _ _ _ _ I0.out.1 (by omega) (fun _ => pc1_c s z M w.heap.size _ I0.out.2.2.2.1 (by have := I0.out.2.2.2.2; omega) I0.out.2.2.1 hf)).mono ?_
  rintro e w1 ⟨rfl, hX, ho⟩
  rw [← HX.out.1] at hX
  have I1 := Lib.hid (And.intro hX (And.intro (I0.out.2.1.then ho) (HST.out _ w1 x1 I0.out.2.2 hX ho)))
  clear hX ho c34
  have c35 := I1.out.2.2.1.d35 hlen
  go_wp2_with fail
  refine (wpart_c r x1 (yC2 s) 10 _ _ _ _ I1.out.1 (by omega) (fun _ => pc2_c s z M w.heap.size _ I1.out.2.2.2.1 (by have := I1.out.2.2.2.2; omega) I1.out.2.2.1 hf)).mono ?_
  rintro e w2 ⟨rfl, hX, ho⟩
  rw [← HX.out.2.1] at hX
  have I2 := Lib.hid (And.intro hX (And.intro (I1.out.2.1.then ho) (HST.out _ w2 x2 I1.out.2.2 hX ho)))
  clear hX ho c35
  have c36 := I2.out.2.2.1.d36 hlen
  go_wp2_with fail
  refine (wpart_c r x2 (yC3 s) 13 _ _ _ _ I2.out.1 (by omega) (fun _ => pc3_c s z M w.heap.size _ I2.out.2.2.2.1 (by have := I2.out.2.2.2.2; omega) I2.out.2.2.1 hf)).mono ?_
  rintro e w3 ⟨rfl, hX, ho⟩
  rw [← HX.out.2.2.1] at hX
  have I3 := Lib.hid (And.intro hX (And.intro (I2.out.2.1.then ho) (HST.out _ w3 x3 I2.out.2.2 hX ho)))
  clear hX ho c36
  have c37 := I3.out.2.2.1.d37 hlen
  go_wp2_with fail
  refine (wpart_c r x3 (yC4 s) 51 _ _ _ _ I3.out.1 (by omega) (fun _ => pc4_c s z M w.heap.size _ I3.out.2.2.2.1 (by have := I3.out.2.2.2.2; omega) I3.out.2.2.1 hf)).mono ?_
  rintro e w4 ⟨rfl, hX, ho⟩
  rw [← HX.out.2.2.2.1] at hX
  have I4 := Lib.hid (And.intro hX (And.intro (I3.out.2.1.then ho) (HST.out _ w4 x4 I3.out.2.2 hX ho)))
  clear hX ho c37
  have c38 := I4.out.2.2.1.d38 hlen
  go_wp2_with fail
  refine (wpart_c r x4 (yC5 s) 44 _ _ _ _ I4.out.1 (by omega) (fun _ => pc5_c s z M w.heap.size _ I4.out.2.2.2.1 (by have := I4.out.2.2.2.2; omega) I4.out.2.2.1)).mono ?_
  rintro e w5 ⟨rfl, hX, ho⟩
  rw [← HX.out.2.2.2.2.1] at hX
  have I5 := Lib.hid (And.intro hX (And.intro (I4.out.2.1.then ho) (HST.out _ w5 x5 I4.out.2.2 hX ho)))
  clear hX ho c38
  have c39 := I5.out.2.2.1.d39 hlen
  go_wp2_with fail
  refine (wpart_c r x5 (yC6 s) 45 _ _ _ _ I5.out.1 (by omega) (fun _ => pc6_c s z M w.heap.size _ I5.out.2.2.2.1 (by have := I5.out.2.2.2.2; omega) I5.out.2.2.1)).mono ?_
  rintro e w6 ⟨rfl, hX, ho⟩
  rw [← HX.out.2.2.2.2.2.1] at hX
  have I6 := Lib.hid (And.intro hX (And.intro (I5.out.2.1.then ho) (HST.out _ w6 x6 I5.out.2.2 hX ho)))
  clear hX ho c39
  have c40 := I6.out.2.2.1.d40 hlen
  go_wp2_with fail
  refine (wpart_c r x6 (yC7 s) 41 _ _ _ _ I6.out.1 (by omega) (fun _ => pc7_c s z M w.heap.size _ I6.out.2.2.2.1 (by have := I6.out.2.2.2.2; omega) I6.out.2.2.1 hf)).mono ?_
  rintro e w7 ⟨rfl, hX, ho⟩
  rw [← HX.out.2.2.2.2.2.2] at hX
  have I7 := Lib.hid (And.intro hX (And.intro (I6.out.2.1.then ho) (HST.out _ w7 x7 I6.out.2.2 hX ho)))
  clear hX ho c40
  go_wp2
  go_end0
  exact ⟨rfl, I7.out.1, I7.out.2.1⟩

theorem wPc_le (x y : WS) (k : Int) (b : Bool) : (wP x k b y).1.length ≤ x.1.length + 65541 := wP_len _ _ _ _
theorem wL_le (x : WS) (l : List Int) (m : Int) : (wL x l 2 m).1.length ≤ x.1.length + 65537 := by
  unfold wL
  exact wV_len _ _ _ _ _ (by decide)
def putC (s : Cl) : WS := wN (wV (wL (wV ((wU (wM ([], false) (decide (s.ids.length = s.bnd.length))) 771 2).1 ++ s.R, (wU (wM ([], false) (decide (s.ids.length = s.bnd.length))) 771 2).2) s.ses 1 0 32) s.suites 2 8) [0] 1 1 1) (xC7 ([], false) s) 2
theorem nil_lt6 : (([], false) : WS).1.length + 600000 ≤ 70368744177664 := by rw [List.length_nil]; omega
set_option maxHeartbeats 8000000 in
theorem pc0_c (s : Cl) (z : Z10) (M q : Nat) (w : World) (h : IsCl w (· < M) s z) (hM : M ≤ w.heap.size) (hB : Blk w q 56 (clV s z)) (hf : Fit s) : Puts w 52 (rp q) (xC7 ([], false) s) := by
  refine ⟨fun _ _ => by kernel_rfl, fun r w1 hr hb hW => ?_⟩
  have HB := Lib.hid (And.intro (hB.below hb) (And.intro (h.below hb) hf))
  have hsz := clV_size s z h.len
  clear h hb hB hf
  go_enter Try.func52, Try.ntmps52
  go_wp2_with (first
    | (refine wpList_load_mid rfl 56 (.tmp 1) rfl q 0 rfl (clV s z).toList _ HB.out.1.range Try.underlying56 rfl (by rw [Array.length_toList, hsz]; exact Try.infoCl) ?_; rw [Array.toArray_toList])
    | (go_at_call 53; refine (parts_c r _ s z M _ hW nil_lt6 HB.out.2.1 (by omega) HB.out.2.2).mono ?_; rintro e w2 ⟨rfl, hX, ho⟩))
  go_end0
  exact ⟨rfl, hX, ho⟩
end Go.Proofs.Ytegmimnhkohaoaa
/-
  The contract of hello.PutClient. Conditions: those of Fit.
-/
namespace Go.Proofs.Ytegmimnhkohaoaa
open Go.RowKit Go.Kx
set_option linter.unusedVariables false
set_option linter.unusedSimpArgs false
set_option maxRecDepth 100000
attribute [local irreducible] wP wN wV wU wL xC7

/-- The Client's block, its slices, the writer. -/
structure PJ (w : World) (M : Nat) (s : Cl) (z : Z10) (r : Nat) (x : WS) (wx : World) : Prop where
  b : Blk wx w.heap.size 56 (clV s z)
  i : IsCl wx (· < M) s z
  wr : WB w wx r x
  lt : w.heap.size < r
theorem PJ.step {w wx wy : World} {M r : Nat} {s : Cl} {z : Z10} {x y : WS} (h : PJ w M s z r x wx) (hM : M ≤ w.heap.size) (h1 : Wr wy r y) (h2 : Only (· = r) wx wy) : PJ w M s z r y wy :=
  ⟨h.b.only h2 (by have := h.lt; omega), h.i.only h2 (by intro k hk e; have := h.lt; omega), h.wr.step h1 h2, h.lt⟩

theorem PJ.below {w wx wy : World} {M r : Nat} {s : Cl} {z : Z10} {x : WS} (h : PJ w M s z r x wx) (hb : Below wx.heap.size wx wy) : PJ w M s z r x wy :=
  ⟨h.b.below hb, h.i.below hb, ⟨h.wr.1.below hb, h.wr.2.1.trans (hb.mono h.wr.2.1.size), h.wr.2.2⟩, h.lt⟩
set_option maxHeartbeats 8000000 in
theorem putClient_c (s : Cl) (z : Z10) (M : Nat) (w : World) (h : IsCl w (· < M) s z) (hM : M ≤ w.heap.size) (hf : Fit s) : Calls Try.prog 16 #[.agg (clV s z)] w (PutR w (putC s)) := by
  have hB := Blk.new w 56 (clV s z)
  have hb0 : Below w.heap.size w (w.alloc (.cells (clV s z) 56)) := (Below.refl _ _).alloc (Nat.le_refl _) _
  have hz0 := World.size_alloc w (.cells (clV s z) 56)
  have hnew := Wr.new (w.alloc (.cells (clV s z) 56))
  have hb1 : Below (w.heap.size + 1) (w.alloc (.cells (clV s z) 56)) ((w.alloc (.cells (clV s z) 56)).alloc (.cells #[.slice none 0 0, .bool false] 80)) := (Below.refl _ _).alloc (by rw [hz0]; exact Nat.le_refl _) _
  rw [hz0] at hnew
  rw [← hz0] at hb1
  have hI : PJ w M s z (w.heap.size + 1) ([], false) ((w.alloc (.cells (clV s z) 56)).alloc (.cells #[.slice none 0 0, .bool false] 80)) :=
    ⟨hB.below hb1, (h.below hb0).below hb1, ⟨hnew, hb0.trans (hb1.mono hb0.size), by omega⟩, by omega⟩
  have hlen := h.len
  have l9 := h.s9.1
  have l10 := h.s10.1
  obtain ⟨b, hb⟩ : ∃ b, b = decide (z.n9 = z.n10) := ⟨_, rfl⟩
  have hbb : ((z.n9 : Int) == (z.n10 : Int)) = b := by rw [hb, Bool.eq_iff_iff]; simp; omega
  have hput : putC s = wN (wV (wL (wV ((wU (wM ([], false) b) 771 2).1 ++ s.R, (wU (wM ([], false) b) 771 2).2) s.ses 1 0 32) s.suites 2 8) [0] 1 1 1) (xC7 ([], false) s) 2 := by
    rw [hb, ← l9, ← l10]; rfl
  have HPUT := Lib.hid hput
  have HF := Lib.hid hf
  clear hB hb0 hnew hb1 h hb hput hf l9 l10
  go_enter Try.func16, Try.ntmps16
  go_upto_region 2 with (fail)
  generalize (w.alloc (.cells (clV s z) 56)).alloc (.cells #[.slice none 0 0, .bool false] 80) = w1 at *
  have c40 := hI.b.d40 hlen
  have c41 := hI.b.d41 hlen
  have H1 := Lib.hid hI
  have hM1 := hI.wr.2.1.size
  have hl2 := wU_len (wM ([], false) b) 771 2 (by decide)
  have e0 : (wM ([], false) b).1.length = 0 := rfl
  rw [e0] at hl2
  have HL2 := Lib.hid e0
  clear hI e0
  go_upto_region 4 with (first
    | (go_at_call 27; refine (wr_must _ b ([], false) _ H1.out.wr.1).mono ?_; rintro e w3 ⟨rfl, hX, ho⟩; have H3 := Lib.hid (H1.out.step hM hX ho); clear hX ho)
    | (go_at_call 30; refine (wuint_c _ (wM ([], false) b) 771 2 _ H3.out.wr.1 (by rw [HL2.out]; omega)).mono ?_; rintro e w4 ⟨rfl, hX, ho⟩; have H4 := Lib.hid (H3.out.step hM hX ho); clear hX ho))
  clear H1 H3 c40 c41 hbb
  obtain ⟨x2, hx2⟩ : ∃ y, y = wU (wM ([], false) b) 771 2 := ⟨_, rfl⟩
  rw [← hx2] at H4 hl2 HPUT
  clear hx2
  obtain ⟨g, p, n, c, hbx, hn, hrg, hO⟩ := H4.out.wr.1.ex
  have c0 := hbx.c0
  have f0 := hbx.fr 0
  have hs2 := H4.out.b.lt
  have hrl := H4.out.wr.1.lt
  have hn2 : n ≤ 100 := by omega
  have hnews : ∀ j u, (s.R.map B8)[j]? = some u → w4.cell? ((⟨w.heap.size, 0, none⟩ : Addr).add j) = some u := by
    intro j u hu
    have e : (⟨w.heap.size, 0, none⟩ : Addr).add j = ⟨w.heap.size, 0 + j, none⟩ := by unfold Addr.add; split <;> simp_all
    rw [e]
    exact H4.out.b.crnd hlen j u hu
  have HN := Lib.hid hnews
  have HO := Lib.hid (And.intro (hO.row hn) (And.intro hbx hn))
  have hm32 : (s.R.map B8).length = 32 * 1 := by rw [List.length_map, hlen]
  have HM := Lib.hid hm32
  clear hO hbx hn hm32 hnews
  go_region_law ((refine step_append_row rfl _ _ 23 rfl 5 (.int .u8 0) 1 1 Try.underlying23 Try.info5 rfl (by decide) g (.slice p n c) n (x2.1.map B8) (by simp [Act.eval, Act.put]) HO.out.1 ⟨w.heap.size, 0, none⟩ 32 32 (s.R.map B8) (by simp [Act.eval, Act.put]) HM.out HN.out (oneCell_map _) (by simp only [maxLen]; omega) (by omega) w4.heap.size (by simp) ?_; intro g2 v2 w5 hrow hg2 hO5q; have hO5 : Only (· = g) w4 w5 := (by first | exact hO5q | exact ⟨hO5q.os, hO5q.tape, hO5q.output, hO5q.size, hO5q.block⟩); clear hO5q; have hx5 := HO.out.2.1.only hO5 (by omega); have f5 := hx5.fr 0; have c5 := hx5.c0; obtain ⟨p5, k5, rfl, -⟩ := Row.form hrow; have H5 := Lib.hid (And.intro hrow (And.intro hg2 (And.intro hO5 hx5))); clear hrow hg2 hO5 hx5))
  have hO6 : Own (w5.setCell ⟨w.heap.size + 1, 0, none⟩ (.slice p5 (n + 32) k5)) g2 (.slice p5 (n + 32) k5) (x2.1 ++ s.R) := by
    have h5 : Own w5 g2 (.slice p5 (n + 32) k5) (x2.1 ++ s.R) := by
      unfold Own
      rw [List.length_append, List.map_append, HO.out.2.2, hlen]
      exact H5.out.1
    exact h5.only ((Only.refl (fun k => k = w.heap.size + 1) w5).setCell _ _ (.inl rfl)) (by have := H5.out.2.1; omega)
  have hx6 := H5.out.2.2.2.set0 (.slice p5 (n + 32) k5)
  have hW6 : Wr (w5.setCell ⟨w.heap.size + 1, 0, none⟩ (.slice p5 (n + 32) k5)) (w.heap.size + 1) (x2.1 ++ s.R, x2.2) :=
    ⟨g2, p5, n + 32, k5, hx6, by rw [List.length_append, HO.out.2.2, hlen], by have := H5.out.2.1; omega, hO6⟩
  have hO46 : Only (fun k => k = g ∨ k = w.heap.size + 1) w4 (w5.setCell ⟨w.heap.size + 1, 0, none⟩ (.slice p5 (n + 32) k5)) := (H5.out.2.2.1.mono (fun _ _ h => .inl h)).setCell _ _ (.inl (.inr rfl))
  have hJ6 : PJ w M s z (w.heap.size + 1) (x2.1 ++ s.R, x2.2) (w5.setCell ⟨w.heap.size + 1, 0, none⟩ (.slice p5 (n + 32) k5)) :=
    ⟨H4.out.b.only hO46 (by omega), H4.out.i.only hO46 (by intro k hk e; omega), ⟨hW6, below_only H4.out.wr.2.1 H4.out.wr.2.1.size hO46 (by intro k hk e; omega), by omega⟩, by omega⟩
  have hx3l : (x2.1 ++ s.R).length ≤ 200 := by rw [List.length_append, HO.out.2.2, hlen]; omega
  have hput := HPUT.out
  have h4l := wV_len (x2.1 ++ s.R, x2.2) s.ses 1 0 32 (by decide)
  obtain ⟨x4, hx4⟩ : ∃ x4, x4 = wV (x2.1 ++ s.R, x2.2) s.ses 1 0 32 := ⟨_, rfl⟩
  rw [← hx4] at hput h4l
  have h5l := wL_le x4 s.suites 8
  obtain ⟨x5, hx5⟩ : ∃ x5, x5 = wL x4 s.suites 2 8 := ⟨_, rfl⟩
  rw [← hx5] at hput h5l
  have h6l := wV_len x5 [0] 1 1 1 (by decide)
  obtain ⟨x6, hx6'⟩ : ∃ x6, x6 = wV x5 [0] 1 1 1 := ⟨_, rfl⟩
  rw [← hx6'] at hput h6l
  have HX := Lib.hid (And.intro hx4 (And.intro hx5 (And.intro hx6' hput)))
  have h4l' : x4.1.length ≤ 65737 := Nat.le_trans h4l (by show (x2.1 ++ s.R).length + 65537 ≤ _; omega)
  have J6 := Lib.hid hJ6
  have c32 := hJ6.b.d32 hlen
  clear hx4 hx5 hx6' hput h4l hO6 hx6 hW6 hO46 hJ6 c0 f0 c5 f5 HN HM HPUT
  generalize w5.setCell ⟨w.heap.size + 1, 0, none⟩ (.slice p5 (n + 32) k5) = w6 at *
  go_wp2_with (first
    | (go_at_call 31; have hq := J8; refine (wvec_c _ _ _ 1 1 [0] 1 1 1 _ J8.out.2.1.wr.1 rfl (J8.out.1.mono (fun k _ hk => by omega)) (by intro h; cases h) (by decide) (by omega)).mono ?_; rintro e w9 ⟨rfl, hX, ho⟩; rw [← HX.out.2.2.1] at hX; have J9 := Lib.hid (J8.out.2.1.step hM hX ho); clear hX ho)
    | (go_at_call 31; refine (wvec_c _ _ _ _ _ s.ses 1 0 32 _ J6.out.wr.1 J6.out.i.s1.1 (J6.out.i.s1.2.1.mono (fun k _ hk => by omega)) J6.out.i.s1.2.2.1 (by decide) (by show (x2.1 ++ s.R).length ≤ _; omega)).mono ?_; rintro e w7 ⟨rfl, hX, ho⟩; rw [← HX.out.1] at hX; have J7 := Lib.hid (J6.out.step hM hX ho); have c33 := J7.out.b.d33 hlen; clear hX ho)
    | (go_at_call 51; refine (wlist_c _ x4 _ _ _ s.suites 2 8 _ J7.out.wr.1 (J7.out.i.s2.2.1.mono (fun k _ hk => by omega)) J7.out.i.s2.1 (by rw [← J7.out.i.s2.1]; exact HF.out.f1) (by omega) (by decide)).mono ?_; rintro e w8 ⟨rfl, hX, ho⟩; rw [← HX.out.2.1] at hX; have hJ8 := J7.out.step hM hX ho; have hz8 := hJ8.wr.2.1.size; have hr8 := hJ8.wr.1.lt; have hB8 : Below w8.heap.size w8 (w8.alloc (.cells #[.int .u8 0] 5)) := (Below.refl _ _).alloc (Nat.le_refl _) _; have J8 := Lib.hid (And.intro (Own.lit w8 [0] (by simp)).rd (And.intro (hJ8.below hB8) hr8)); clear hX ho hJ8 hB8)
    | (go_at_call 32; refine (wnested_c _ x6 _ 2 _ _ _ J9.out.wr.1 (by decide) (by omega) (pc0_c s z M w.heap.size _ J9.out.i (by have := J9.out.wr.2.1.size; omega) J9.out.b HF.out)).mono ?_; rintro e w10 ⟨rfl, hX, ho⟩; rw [← HX.out.2.2.2] at hX; have J10 := Lib.hid (J9.out.wr.step hX ho); clear hX ho)
    | (go_at_call 35; refine (wend_c _ _ _ J10.out.1).mono ?_; rintro e w11 ⟨rfl, hE⟩; rcases hE with ⟨he, rfl⟩ | ⟨he, g9, p9, n9, c9, rfl, hn9, hg9, hO9⟩))
  · go_ret2
    exact ⟨.inl ⟨he, rfl⟩, J10.out.2.1⟩
  · go_ret2
    exact ⟨.inr ⟨he, g9, p9, n9, c9, rfl, hn9, by omega, hO9⟩, J10.out.2.1⟩
end Go.Proofs.Ytegmimnhkohaoaa
/-
  A map[int]bool of the call's own that holds a list of numbers: look-up and store. Condition: fewer than maxLen entries.
-/
namespace Go.Proofs.Ytegmimnhkohaoaa
open Go.RowKit Go.Kx Go.Maps

abbrev HD := DataW Unit
def hadD (had : List Int) : HD := had.foldr (fun k D => D.put (.int .i64 k) (.lit (.bool true))) (.map [])
theorem hadD_map (had : List Int) : IsMap (hadD had) := by
  induction had with
  | nil => exact isMap_empty
  | cons k t ih =>
    obtain ⟨es, h⟩ := ih
    show IsMap ((hadD t).put _ _)
    rw [h]
    exact ⟨_, rfl⟩
theorem hadD_at (had : List Int) (k : Int) : (hadD had).atKey (.int .i64 k) (.lit (.bool false)) = .lit (.bool (decide (k ∈ had))) := by
  induction had with
  | nil => simp [hadD, DataW.atKey]
  | cons x t ih =>
    show ((hadD t).put _ _).atKey _ _ = _
    by_cases e : k = x
    · subst e
      rw [atKey_put_same (hadD_map t) (by simp [WideAt.IsKeyLit])]
      simp
    · rw [atKey_put_other (by simp; exact e), ih]
      simp [e]
/-- Block b is a map that holds these numbers. -/
def HadAt (w : World) (b : Nat) (had : List Int) : Prop := w.ownsMap Try.prog 3 (plainElem (H := Unit) Try.prog 4) b had.length (hadD had)
theorem HadAt.lt {w : World} {b : Nat} {had : List Int} (h : HadAt w b had) : b < w.heap.size := World.ownsMap.lt h
theorem HadAt.new (w : World) : HadAt (w.alloc (.map #[] 0)) w.heap.size [] := World.ownsMap_made _ _ _ _
theorem HadAt.only {w w' : World} {q : Nat → Prop} {b : Nat} {had : List Int} (h : HadAt w b had) (ho : Only q w w') (hq : ¬ q b) : HadAt w' b had := by
  obtain ⟨es, clock, hb, F, hs, hD⟩ := id h
  exact ⟨es, clock, (ho.block b h.lt hq).trans hb, F, hs, hD⟩
theorem plainElem_bool_inv {P : Program} {e : TypeId} (he : P.underlying e = some .bool) {v : Value} {z : HD × List MemPlace} (h : plainElem P e v = some z) : ∃ x, v = .bool x ∧ z = (.lit (.bool x), []) := by
  unfold plainElem at h
  rw [he] at h
  cases v <;> simp at h
  exact ⟨_, rfl, h.symm⟩
theorem zeroB (w : World) : (zeroValue 4).run Try.prog w = .ok (.bool false) w := by kernel_rfl
theorem run_lookup_had {w : World} {b : Nat} {had : List Int} (h : HadAt w b had) (k : Int) (hk : (Lit.int .i64 k).wf = true) : (Instr.lookup 129 (.map (some b)) (.int .i64 k) false).run Try.prog w = .ok (.bool (decide (k ∈ had))) w := by
  obtain ⟨v, ps, hrun, hv⟩ := World.ownsMap.lookup h (int_keyed Try.underlying3) Try.underlying129 (zeroB w) (plainElem_bool Try.underlying4 false) (keyOf_int_mk Try.underlying3 hk)
  obtain ⟨x, rfl, hx⟩ := plainElem_bool_inv Try.underlying4 hv
  rw [hadD_at] at hx
  simp only [Prod.mk.injEq, DataW.lit.injEq, Lit.bool.injEq] at hx
  rw [hrun, hx.1]
theorem wpList_lookup_had (w : World) {ops : Array Oper} {rest : List Oper} {o : Oper} {a : Act} {Q : Exit → Act → World → Prop}
    (hg : o.guard = none) (m x : Operand) (hop : o.op = Op.lookup 129 m x false) (b : Nat) (had : List Int) (k : Int)
    (hm : a.eval m = .map (some b)) (hx : a.eval x = .int .i64 k) (h : HadAt w b had) (hk : (Lit.int .i64 k).wf = true)
    (hK : wpList Try.prog ops Q rest (a.put o.dst (.bool (decide (k ∈ had)))) w) : wpList Try.prog ops Q (o :: rest) a w := by
  refine wpList_plain hg fun K' hK' => ?_
  have hrun := run_lookup_had h k hk
  unfold Oper.wp
  simp [execOp, hop, hm, hx, hrun, Result.andThen]
  exact hK' _ _ hK
theorem wpList_update_had (w : World) {ops : Array Oper} {rest : List Oper} {o : Oper} {a : Act} {Q : Exit → Act → World → Prop}
    (hg : o.guard = none) (m x v : Operand) (hop : o.op = Op.mapUpdate 129 m x v) (b : Nat) (had : List Int) (k : Int)
    (hm : a.eval m = .map (some b)) (hx : a.eval x = .int .i64 k) (hv : a.eval v = .bool true) (h : HadAt w b had) (hk : (Lit.int .i64 k).wf = true) (hn : had.length < maxLen)
    (hK : ∀ w', HadAt w' b (k :: had) → Only (· = b) w w' → wpList Try.prog ops Q rest (a.put o.dst undef) w') : wpList Try.prog ops Q (o :: rest) a w :=
  wpList_mapUpdate_own w hg m x v 129 hop 3 4 (int_keyed Try.underlying3) Try.underlying129 _ b had.length (hadD had) hm h hn _ _ _ hx hv (keyOf_int_mk Try.underlying3 hk) _ [] (plainElem_bool Try.underlying4 true)
    fun w' h1 h2 => hK w' h1 ((Only.of_grown h2).mono fun k _ hk => by simpa using hk)
end Go.Proofs.Ytegmimnhkohaoaa
/-
  The contracts of package hello's readers that call closures: must, skip, inside, within, extensions. Conditions: at most 2 to the 47th bytes.
-/
namespace Go.Proofs.Ytegmimnhkohaoaa
open Go.RowKit Go.Kx
set_option linter.unusedVariables false
set_option linter.unusedSimpArgs false

/-- What Uint tells. -/
def rU (s : List UInt8) (bad W : Int) : Int × List UInt8 × Int := ((beN (outS s (wb bad W) W) : Nat), leftS s (wb bad W) W, badS s (wb bad W) W)
def CurR (w : World) (r g : Nat) (x : List UInt8 × Int) (e : Ending) (w' : World) : Prop := e = .returned ret0 ∧ Cur w' r g x.1 x.2 ∧ Only (· = r) w w'
theorem ruint_c (r g : Nat) (s : List UInt8) (bad W : Int) (w : World) (hr : Cur w r g s bad) : Calls Try.prog 46 #[rp r, .int .i64 W] w fun e w' => e = .returned (.int .i64 (rU s bad W).1) ∧ Cur w' r g (rU s bad W).2.1 (rU s bad W).2.2 ∧ Only (· = r) w w' := uint_c r g s bad W w hr
theorem rU_big (s : List UInt8) (bad W : Int) : 0 ≤ (rU s bad W).1 ∧ (rU s bad W).1 < 4294967296 := by
  have := beN_small _ (out_four s bad W)
  unfold rU
  simp only
  omega
theorem rU_left (s : List UInt8) (bad W : Int) : (rU s bad W).2.1.length ≤ s.length := leftS_le _ _ _
theorem vecS_left (s : List UInt8) (bad W l m : Int) : (vecS s bad W l m).2.1.length ≤ s.length := by
  unfold vecS
  simp only
  split <;> exact Nat.le_trans (leftS_le _ _ _) (leftS_le _ _ _)
theorem vecS_out (s : List UInt8) (bad W l m : Int) : (vecS s bad W l m).1.length ≤ s.length := by
  unfold vecS
  simp only
  split
  · simp
  · exact Nat.le_trans (outS_le _ _ _) (leftS_le _ _ _)

def mustS (s : List UInt8) (bad n W : Int) : List UInt8 × Int := ((rU s bad W).2.1, if (rU s bad W).1 = n then (rU s bad W).2.2 else rm (rU s bad W).2.2 3)
theorem must_c (r g : Nat) (s : List UInt8) (bad n W : Int) (w : World) (hr : Cur w r g s bad) : Calls Try.prog 43 #[rp r, .int .i64 n, .int .i64 W] w (CurR w r g (mustS s bad n W)) := by
  have H := Lib.hid (fun wx (h : Cur wx r g s bad) => ruint_c r g s bad W wx h)
  have hm : mustS s bad n W = ((rU s bad W).2.1, if (rU s bad W).1 = n then (rU s bad W).2.2 else rm (rU s bad W).2.2 3) := rfl
  have HM := Lib.hid hm
  clear hm
  generalize rU s bad W = u at *
  obtain ⟨a, s1, b1⟩ := u
  simp only at H
  by_cases h : a = n
  · have hb : (a != n) = false := by simpa using h
    have HE := Lib.hid h
    clear h
    go_enter Try.func43, Try.ntmps43
    go_wp2_with (first
      | (go_at_call 46; refine (H.out _ hr).mono ?_; rintro e w1 ⟨rfl, hc, ho⟩))
    go_end0
    rw [HM.out]
    simp only [HE.out, if_true]
    exact ⟨rfl, hc, ho⟩
  · have hb : (a != n) = true := by simpa using h
    have HE := Lib.hid h
    clear h
    go_enter Try.func43, Try.ntmps43
    go_wp2_with (first
      | (go_at_call 46; refine (H.out _ hr).mono ?_; rintro e w1 ⟨rfl, hc, ho⟩)
      | (go_at_call 49; refine (fail_c r g _ _ _ hc).mono ?_; rintro e w2 ⟨rfl, hc2, ho2⟩))
    go_end0
    rw [HM.out]
    simp only [HE.out, if_false]
    exact ⟨rfl, hc2, ho.then ho2⟩

def skipS (s : List UInt8) (bad : Int) : List UInt8 × Int := (leftS s bad (s.length : Int), badS s bad (s.length : Int))
theorem skip_c (r g : Nat) (s : List UInt8) (bad : Int) (w : World) (hr : Cur w r g s bad) (hl : s.length ≤ 140737488355328) : Calls Try.prog 86 #[rp r] w (CurR w r g (skipS s bad)) := by
  go_enter Try.func86, Try.ntmps86
  go_wp2_with (first
    | (go_at_call 82; refine (left_c r g s bad _ hr).mono ?_; rintro e w1 ⟨rfl, rfl⟩)
    | (go_at_call 44; refine (bytes_c r g s bad _ _ hr hl).mono ?_; rintro e w2 ⟨g', p, c, rfl, h1, h2, hc, ho⟩))
  go_end0
  exact ⟨rfl, hc, ho⟩

/-- What a closure does that reads all that a new Reader has: from I to J; B: the old blocks that it may change. -/
def ReadsR (w : World) (q g : Nat) (y : List UInt8 × Int) (J : World → Prop) (B : Nat → Prop) (e : Ending) (w' : World) : Prop := e = .returned ret0 ∧ Cur w' q g y.1 y.2 ∧ J w' ∧ Only (fun b => b = q ∨ B b) w w'
def Reads (M : Nat) (k : FuncId) (cap : Array Value) (I : World → Prop) (s : List UInt8) (y : List UInt8 × Int) (J : World → Prop) (B : Nat → Prop) : Prop :=
  Known k ∧ ∀ (q g : Nat) (w' : World), M ≤ q → M ≤ g → M ≤ w'.heap.size → I w' → Cur w' q g s 0 → Calls Try.prog k (#[rp q] ++ cap) w' (ReadsR w' q g y J B)
/-- The error behind it. -/
def insB (bad : Int) (y : List UInt8 × Int) : Int := if doneS y.1 y.2 = 0 then bad else rm bad 3

set_option maxHeartbeats 4000000 in
set_option maxRecDepth 100000 in
theorem inside_c (r g : Nat) (s : List UInt8) (bad : Int) (S : Nat → Prop) (p : Option Addr) (n c : Nat) (b : List UInt8) (k : FuncId) (cap : Array Value) (I J : World → Prop) (y : List UInt8 × Int) (B : Nat → Prop) (w : World)
    (hr : Cur w r g s bad) (hb : Rd w S p b) (hn : b.length = n) (hp : p = none → c = 0) (hl : b.length ≤ 140737488355328) (hI : ∀ w', Below w.heap.size w w' → I w') (hJ : ∀ w1 w2, J w1 → Only (· = r) w1 w2 → J w2)
    (hf : Reads w.heap.size k cap I b y J B) (hBr : ¬ B r) (hBg : ¬ B g) :
    Calls Try.prog 84 #[rp r, .slice p n c, .func (.func k) #[] cap] w (ReadsR w r g (s, insB bad y) J B) := by
  have hkn := hf.1
  unfold Known at hkn
  have hrl := hr.lt
  have hgl := hr.glt
  have HF := Lib.hid (And.intro hf.2 (And.intro hI (And.intro hJ (And.intro hr hb))))
  have hy : insB bad y = if doneS y.1 y.2 = 0 then bad else rm bad 3 := rfl
  have HY := Lib.hid (And.intro hy (And.intro hBr hBg))
  clear hf hI hJ hr hy hb hBr hBg
  go_enter Try.func84, Try.ntmps84
  go_wp2_with (first
    | (go_at_call 42; refine (new_c S p n c b _ HF.out.2.2.2.2 hp hl hn).mono ?_; rintro e w1 ⟨q, g1, rfl, h1, h2, h3, hc, hb1⟩; have H1 := Lib.hid (And.intro hc hb1); clear hc hb1))
  have hs1 := H1.out.2.size
  refine (HF.out.1 q g1 w1 h1 h3 hs1 (HF.out.2.1 _ H1.out.2) H1.out.1).mono ?_
  rintro e w2 ⟨rfl, hc2, hj2, ho2⟩
  have hcr : Cur w2 r g s bad := (HF.out.2.2.2.1.only (Only.of_below (r := fun _ => False) H1.out.2) (fun h => h) (fun h => h)).only ho2 (by rintro (h | h); omega; exact HY.out.2.1 h) (by rintro (h | h); omega; exact HY.out.2.2 h)
  have hoo : Only (fun b => b = r ∨ B b) w w2 := (Only.of_below (r := fun b => b = r ∨ B b) H1.out.2).trans ho2 (fun _ h => h) (fun x hx h => by rcases h with h | h; omega; exact .inr h)
  have H2 := Lib.hid (And.intro hc2 (And.intro hj2 (And.intro hcr hoo)))
  clear hc2 hj2 hcr hoo ho2
  by_cases hd : doneS y.1 y.2 = 0
  · have hx : insB bad y = bad := by rw [HY.out.1, if_pos hd]
    have HX := Lib.hid hx
    clear hx
    go_wp2_with (first
      | (go_at_call 50; refine (done_c q g1 y.1 y.2 _ H2.out.1).mono ?_; rintro e w3 ⟨rfl, rfl⟩))
    go_end0
    rw [HX.out]
    exact ⟨rfl, H2.out.2.2.1, H2.out.2.1, H2.out.2.2.2⟩
  · have hx : insB bad y = rm bad 3 := by rw [HY.out.1, if_neg hd]
    have HX := Lib.hid hx
    have hdb : (doneS y.1 y.2 != 0) = true := by simpa using hd
    clear hx hd
    go_wp2_with (first
      | (go_at_call 50; refine (done_c q g1 y.1 y.2 _ H2.out.1).mono ?_; rintro e w3 ⟨rfl, rfl⟩)
      | (go_at_call 49; refine (fail_c r g s bad _ H2.out.2.2.1).mono ?_; rintro e w4 ⟨rfl, hc4, ho4⟩))
    go_end0
    rw [HX.out]
    exact ⟨rfl, hc4, HF.out.2.2.1 _ _ H2.out.2.1 ho4, H2.out.2.2.2.then (ho4.mono (fun _ _ h => .inl h))⟩

theorem Reads.mono {M N : Nat} {k : FuncId} {cap : Array Value} {I J : World → Prop} {s : List UInt8} {y : List UInt8 × Int} {B : Nat → Prop} (h : Reads M k cap I s y J B) (hN : M ≤ N) : Reads N k cap I s y J B :=
  ⟨h.1, fun q g w' h1 h2 h3 hI hc => h.2 q g w' (by omega) (by omega) (by omega) hI hc⟩

set_option maxHeartbeats 4000000 in
set_option maxRecDepth 100000 in
theorem within_c (r g : Nat) (s : List UInt8) (bad W : Int) (k : FuncId) (cap : Array Value) (I J : World → Prop) (y : List UInt8 × Int) (B : Nat → Prop) (w : World)
    (hr : Cur w r g s bad) (hl : s.length ≤ 140737488355328) (hI : ∀ w', Only (· = r) w w' → I w') (hJ : ∀ w1 w2, J w1 → Only (· = r) w1 w2 → J w2)
    (hf : Reads w.heap.size k cap I (vecS s bad W 0 65535).1 y J B) (hBr : ¬ B r) (hBg : ¬ B g) :
    Calls Try.prog 80 #[rp r, .int .i64 W, .func (.func k) #[] cap] w (ReadsR w r g ((vecS s bad W 0 65535).2.1, insB (vecS s bad W 0 65535).2.2 y) J B) := by
  have hvo := vecS_out s bad W 0 65535
  have HV := Lib.hid (vector_c r g s bad W 0 65535 w hr hl)
  obtain ⟨b, hb⟩ : ∃ b, b = (vecS s bad W 0 65535).1 := ⟨_, rfl⟩
  obtain ⟨s1, hs1⟩ : ∃ b, b = (vecS s bad W 0 65535).2.1 := ⟨_, rfl⟩
  obtain ⟨b1, hb1⟩ : ∃ b, b = (vecS s bad W 0 65535).2.2 := ⟨_, rfl⟩
  rw [← hb, ← hs1, ← hb1] at HV
  rw [← hb] at hvo hf
  rw [← hs1, ← hb1]
  have HF := Lib.hid (And.intro hf (And.intro hI (And.intro hJ (And.intro hBr hBg))))
  clear hf hI hJ hBr hBg hb hs1 hb1 hr
  go_enter Try.func80, Try.ntmps80
  go_wp2_with (first
    | (go_at_call 45; refine (HV.out).mono ?_; rintro e w1 ⟨g', p, c, rfl, h1, hO, hc, ho⟩; have H1 := Lib.hid (And.intro hO (And.intro hc ho)); clear hO hc ho)
    | (go_at_call 84; refine (inside_c r g s1 b1 (· = g') p b.length c b k cap I J y B _ H1.out.2.1 H1.out.1.rd rfl (by obtain ⟨p', c', he, _, _, _, hp, _⟩ := H1.out.1.form; cases he; exact hp) (by omega) (fun w' hb => HF.out.2.1 w' (H1.out.2.2.then (Only.of_below hb))) HF.out.2.2.1 (HF.out.1.mono H1.out.2.2.size) HF.out.2.2.2.1 HF.out.2.2.2.2).mono ?_; rintro e w2 ⟨rfl, hc2, hj2, ho2⟩))
  go_end0
  exact ⟨rfl, hc2, hj2, (H1.out.2.2.mono (fun _ _ h => .inl h)).then ho2⟩
end Go.Proofs.Ytegmimnhkohaoaa
/-
  The contract of hello.extensions, of whatever method reads one. Conditions: at most 2 to the 46th bytes.
-/
namespace Go.Proofs.Ytegmimnhkohaoaa
open Go.RowKit Go.Kx
set_option linter.unusedVariables false
set_option linter.unusedSimpArgs false

/-- A method that reads one extension into what block q0 holds. -/
structure Ext {σ : Type} (kf : FuncId) (q0 : Nat) (At : World → (Nat → Prop) → σ → Prop) (F : σ → Int → List UInt8 → Bool → σ × List UInt8 × Int) : Prop where
  known : Known kf
  only : ∀ w w' S X st, At w S st → Only X w w' → (∀ k, X k → ¬ S k ∧ k ≠ q0) → At w' S st
  mono : ∀ w S T st, At w S st → (∀ k, k < w.heap.size → S k → T k) → At w T st
  lt : ∀ w S st, At w S st → q0 < w.heap.size
  run : ∀ (w : World) (S : Nat → Prop) (st : σ) (q g : Nat) (kind : Int) (s : List UInt8) (last : Bool), At w S st → ¬ S q → ¬ S q0 → q ≠ q0 → g ≠ q0 → Cur w q g s 0 → s.length ≤ 140737488355328 → 0 ≤ kind → kind < 4294967296 →
    Calls Try.prog kf #[rp q0, .int .i64 kind, rp q, .bool last] w (ReadsR w q g (F st kind s last).2 (fun w' => At w' (fun k => S k ∨ w.heap.size ≤ k) (F st kind s last).1) (· = q0))

theorem knownE2 : Known 85 := fun _ _ => by kernel_rfl
theorem knownE1 : Known 81 := fun _ _ => by kernel_rfl

section
variable {σ : Type} {kf : FuncId} {q0 : Nat} {At : World → (Nat → Prop) → σ → Prop} {F : σ → Int → List UInt8 → Bool → σ × List UInt8 × Int}

set_option maxHeartbeats 4000000 in
set_option maxRecDepth 100000 in
theorem ext2_c (X : Ext kf q0 At F) (M : Nat) (S : Nat → Prop) (st : σ) (kind : Int) (last : Bool) (bf bk bl : Nat) (s : List UInt8) (hS : ¬ S q0) (hSM : ∀ k, M ≤ k → S k) (hq : q0 < M) (hs : s.length ≤ 140737488355328) (hk0 : 0 ≤ kind) (hk1 : kind < 4294967296) :
    Reads M 85 #[.pointer (some ⟨bf, 0, none⟩), .pointer (some ⟨bk, 0, none⟩), .pointer (some ⟨bl, 0, none⟩)] (fun w => At w (fun k => S k ∧ k < M) st ∧ w.cell? ⟨bf, 0, none⟩ = some (.func (.func kf) #[rp q0] #[]) ∧ w.cell? ⟨bk, 0, none⟩ = some (.int .i64 kind) ∧ w.cell? ⟨bl, 0, none⟩ = some (.bool last)) s (F st kind s last).2 (fun w => At w S (F st kind s last).1) (· = q0) := by
  refine ⟨knownE2, fun q g w h1 h2 h3 hI hc => ?_⟩
  obtain ⟨hA, c1, c2, c3⟩ := hI
  have hkn := X.known
  unfold Known at hkn
  have HR := Lib.hid (X.run w _ st q g kind s last hA (by rintro ⟨_, h⟩; omega) (by rintro ⟨h, _⟩; exact hS h) (by omega) (by omega) hc hs hk0 hk1)
  have HM := Lib.hid (fun (w' : World) (h : At w' (fun k => (S k ∧ k < M) ∨ w.heap.size ≤ k) (F st kind s last).1) => X.mono _ _ S _ h (fun k _ hk => by rcases hk with hk | hk; exact hk.1; exact hSM k (by omega)))
  clear hA hc
  show Calls Try.prog _ #[rp q, .pointer (some ⟨bf, 0, none⟩), .pointer (some ⟨bk, 0, none⟩), .pointer (some ⟨bl, 0, none⟩)] w _
  generalize F st kind s last = y at *
  go_enter Try.func85, Try.ntmps85
  go_wp2_with fail
  refine HR.out.mono ?_
  rintro e w2 ⟨rfl, hc, hj, ho⟩
  go_wp2
  go_end0
  exact ⟨rfl, hc, HM.out _ hj, ho⟩

/-- What is behind the head of one extension: its kind, its bytes, what is left, the error. -/
def headS (had : List Int) (s : List UInt8) : Int × List UInt8 × List UInt8 × Int :=
  let u := rU s 0 2
  let v := vecS u.2.1 u.2.2 2 0 65535
  (u.1, v.1, v.2.1, if u.1 ∈ had then rm v.2.2 3 else v.2.2)
/-- All of them. -/
def extsL (F : σ → Int → List UInt8 → Bool → σ × List UInt8 × Int) : Nat → σ → List Int → List UInt8 → Int → σ × List UInt8 × Int
  | 0, st, _, s, bad => (st, s, bad)
  | n + 1, st, had, s, bad => if s = [] ∨ bad ≠ 0 then (st, s, bad) else
    let h := headS had s
    let y := F st h.1 h.2.1 (decide (h.2.2.1 = []))
    extsL F n y.1 (h.1 :: had) h.2.2.1 (insB h.2.2.2 y.2)
theorem extsL_stop (F : σ → Int → List UInt8 → Bool → σ × List UInt8 × Int) (n : Nat) (st : σ) (had : List Int) (s : List UInt8) (bad : Int) (h : s = [] ∨ bad ≠ 0) : extsL F n st had s bad = (st, s, bad) := by
  cases n with
  | zero => rfl
  | succ n => unfold extsL; rw [if_pos h]
theorem extsL_go (F : σ → Int → List UInt8 → Bool → σ × List UInt8 × Int) (n : Nat) (st : σ) (had : List Int) (s : List UInt8) (h : s ≠ []) : extsL F (n + 1) st had s 0 = extsL F n (F st (headS had s).1 (headS had s).2.1 (decide ((headS had s).2.2.1 = []))).1 ((headS had s).1 :: had) (headS had s).2.2.1 (insB (headS had s).2.2.2 (F st (headS had s).1 (headS had s).2.1 (decide ((headS had s).2.2.1 = []))).2) := by
  conv => lhs; unfold extsL
  rw [if_neg (by simp [h])]

theorem rm_ne {b e : Int} (h : e ≠ 0) : rm b e ≠ 0 := by unfold rm; split <;> simp_all
theorem rm_bad {b e : Int} (h : b ≠ 0) : rm b e ≠ 0 := by unfold rm; rw [if_neg h]; exact h
theorem insB_bad {b : Int} {y : List UInt8 × Int} (h : b ≠ 0) : insB b y ≠ 0 := by unfold insB; split; exact h; exact rm_bad h
/-- A head takes a byte, or notes an error. -/
theorem headS_less (had : List Int) (s : List UInt8) (hs : s ≠ []) : (headS had s).2.2.1.length + 1 ≤ s.length ∨ (headS had s).2.2.2 ≠ 0 := by
  by_cases h : (rU s 0 2).2.2 = 0
  · left
    have h1 := vecS_left (rU s 0 2).2.1 (rU s 0 2).2.2 2 0 65535
    have h2 : (rU s 0 2).2.1.length + 1 ≤ s.length := by
      unfold rU at h ⊢
      simp only at h ⊢
      have h0 : s.length ≠ 0 := by simpa using hs
      unfold leftS
      rw [if_pos h, List.length_drop]
      simp
      omega
    unfold headS
    simp only
    omega
  · right
    have h1 : (vecS (rU s 0 2).2.1 (rU s 0 2).2.2 2 0 65535).2.2 ≠ 0 := by
      generalize rU s 0 2 = u at h ⊢
      obtain ⟨a, s1, b1⟩ := u
      simp only at h ⊢
      unfold vecS
      simp only
      have hb : badS s1 (wb b1 2) 2 ≠ 0 := badS_ne (by unfold wb; rw [if_pos (by omega)]; exact h)
      rw [if_neg (fun hh => (badS_ne hb) hh.1)]
      simp only
      exact badS_ne hb
    unfold headS
    simp only
    split
    · exact rm_bad h1
    · exact h1
theorem headS_left (had : List Int) (s : List UInt8) : (headS had s).2.2.1.length ≤ s.length := Nat.le_trans (vecS_left _ _ _ _ _) (rU_left _ _ _)
theorem headS_out (had : List Int) (s : List UInt8) : (headS had s).2.1.length ≤ s.length := Nat.le_trans (vecS_out _ _ _ _ _) (rU_left _ _ _)

/-- What the loop over them keeps. -/
structure LB (At : World → (Nat → Prop) → σ → Prop) (kf : FuncId) (q0 : Nat) (w0 : World) (ra b bm bf : Nat) (S : Nat → Prop) (st : σ) (had : List Int) (wx : World) : Prop where
  at' : At wx S st
  had' : HadAt wx b had
  cm : Var wx bm 129 (.map (some b))
  cf : Var wx bf 100 (.func (.func kf) #[rp q0] #[])
  ho : Only (fun k => k = ra ∨ k = q0 ∨ k = b) w0 wx
theorem LB.step {kf : FuncId} {q0 : Nat} {At : World → (Nat → Prop) → σ → Prop} {F : σ → Int → List UInt8 → Bool → σ × List UInt8 × Int} (X : Ext kf q0 At F) {w0 wx wy : World} {ra b bm bf : Nat} {S : Nat → Prop} {st : σ} {had : List Int}
    (h : LB At kf q0 w0 ra b bm bf S st had wx) (ho : Only (· = ra) wx wy) (h1 : ¬ S ra) (h2 : ra ≠ q0) (h3 : ra ≠ b) (h4 : ra ≠ bm) (h5 : ra ≠ bf) : LB At kf q0 w0 ra b bm bf S st had wy :=
  ⟨X.only _ _ _ _ _ h.at' ho (fun k hk => by subst hk; exact ⟨h1, h2⟩), h.had'.only ho (fun e => h3 e.symm), h.cm.only ho (fun e => h4 e.symm), h.cf.only ho (fun e => h5 e.symm), h.ho.then (ho.mono (fun _ _ h => .inl h))⟩

theorem only_var (r : Nat → Prop) (w : World) (t : Nat) (z v : Value) : Only r w ((w.alloc (.cells #[z] t)).setCell ⟨w.heap.size, 0, none⟩ v) := ((Only.refl r w).alloc _).setCell _ _ (.inr (Nat.le_refl _))
theorem Var.made (w : World) (t : Nat) (z v : Value) : Var ((w.alloc (.cells #[z] t)).setCell ⟨w.heap.size, 0, none⟩ v) w.heap.size t v := by
  have h := Var.new w t z
  generalize w.alloc (.cells #[z] t) = w1 at *
  unfold Var at *
  simp [World.setCell, Array.getElem?_modify, h]

/-- The last step of a round: the extension's inside. -/
theorem ext_in (X : Ext kf q0 At F) {w0 w5 : World} {ra ga b bm bf bk g' : Nat} {SL : Nat → Prop} {st : σ} {had : List Int} {kind : Int} {last : Bool} {bs s2 : List UInt8} {b3 : Int} {p : Option Addr} {c : Nat}
    (hL : LB At kf q0 w0 ra b bm bf SL st had w5) (hO : Own w5 g' (.slice p bs.length c) bs) (hC : Cur w5 ra ga s2 b3) (hV : Var w5 bk 3 (.int .i64 kind))
    (h1 : ¬ SL ra) (h2 : ¬ SL q0) (h3 : ¬ SL b) (h4 : ∀ k, ra < k → SL k) (hq : q0 < ra) (hb : b < ra) (hbm : bm < ra) (hbf : bf < ra) (hbq : b ≠ q0) (hbmq : bm ≠ q0) (hbfq : bf ≠ q0) (hga : q0 < ga) (hs : bs.length ≤ 140737488355328) (hk0 : 0 ≤ kind) (hk1 : kind < 4294967296) :
    Calls Try.prog 84 #[rp ra, .slice p bs.length c, .func (.func 85) #[] #[.pointer (some ⟨bf, 0, none⟩), .pointer (some ⟨bk, 0, none⟩), .pointer (some ⟨w5.heap.size, 0, none⟩)]] (w5.alloc (.cells #[.bool last] 4))
      (fun e w7 => e = .returned ret0 ∧ LB At kf q0 w0 ra b bm bf SL (F st kind bs last).1 had w7 ∧ Cur w7 ra ga s2 (insB b3 (F st kind bs last).2)) := by
  have hra := hC.lt
  obtain ⟨w6, hw6⟩ : ∃ w6, w6 = w5.alloc (.cells #[.bool last] 4) := ⟨_, rfl⟩
  have hB6 : Below w5.heap.size w5 w6 := by rw [hw6]; exact (Below.refl _ _).alloc (Nat.le_refl _) _
  have hO6 : ∀ r, Only r w5 w6 := fun r => Only.of_below hB6
  have hsz : w6.heap.size = w5.heap.size + 1 := by rw [hw6]; exact World.size_alloc _ _
  have hVl : Var w6 w5.heap.size 4 (.bool last) := by rw [hw6]; exact Var.new _ _ _
  have hVk : Var w6 bk 3 (.int .i64 kind) := hV.below hB6
  have hL6 := hL.step X (hO6 _) h1 (by omega) (by omega) (by omega) (by omega)
  rw [← hw6]
  have hpc : p = none → c = 0 := by obtain ⟨p', c', he, _, _, _, hp, _⟩ := hO.form; cases he; exact hp
  have hA7 : ∀ w', Below w6.heap.size w6 w' → At w' (fun k => SL k ∧ k < w6.heap.size) st := fun w' hb => X.only _ _ _ (fun _ => False) _ (X.mono _ _ _ _ hL6.at' (fun k hk h => ⟨h, hk⟩)) (Only.of_below hb) (fun _ h => h.elim)
  refine (inside_c ra ga s2 b3 (· = g') p bs.length c bs _ _ _ _ _ _ w6 (hC.only (hO6 (fun _ => False)) (fun h => h) (fun h => h)) (Own.keep hO hB6).rd rfl hpc hs
    (fun w' hb => ⟨hA7 w' hb, (hL6.cf.below hb).c, (hVk.below hb).c, (hVl.below hb).c⟩) (fun w1 w2 hj ho => X.only _ _ _ _ _ hj ho (fun k hk => by subst hk; exact ⟨h1, by omega⟩))
    (ext2_c X w6.heap.size SL st kind last bf bk w5.heap.size bs h2 (fun k hk => h4 k (by omega)) (by omega) hs hk0 hk1) (by omega) (by omega)).mono ?_
  rintro e w7 ⟨rfl, hc7, hj7, ho7⟩
  have hoo : Only (fun k => k = ra ∨ k = q0 ∨ k = b) w6 w7 := ho7.mono (fun k _ h => by rcases h with h | h; exact .inl h; exact .inr (.inl h))
  refine ⟨rfl, ⟨hj7, hL6.had'.only ho7 (by rintro (h | h); omega; exact hbq h), hL6.cm.only ho7 (by rintro (h | h); omega; exact hbmq h), hL6.cf.only ho7 (by rintro (h | h); omega; exact hbfq h), hL6.ho.then hoo⟩, hc7⟩

set_option maxHeartbeats 4000000 in
set_option maxRecDepth 100000 in
theorem ext1_c (X : Ext kf q0 At F) (M : Nat) (S : Nat → Prop) (st0 : σ) (b bm bf : Nat) (s0 : List UInt8) (hS : ¬ S q0) (hSM : ∀ k, M ≤ k → S k) (hq : q0 < M) (hb : b < M) (hbm : bm < M) (hbf : bf < M) (hbq : b ≠ q0) (hbmq : bm ≠ q0) (hbfq : bf ≠ q0) (hbbm : b ≠ bm) (hbbf : b ≠ bf) (hSb : ¬ S b) (hs : s0.length ≤ 70368744177664) :
    Reads M 81 #[.pointer (some ⟨bm, 0, none⟩), .pointer (some ⟨bf, 0, none⟩)] (fun w => At w (fun k => S k ∧ k < M) st0 ∧ HadAt w b [] ∧ Var w bm 129 (.map (some b)) ∧ Var w bf 100 (.func (.func kf) #[rp q0] #[])) s0 (extsL F (s0.length + 1) st0 [] s0 0).2 (fun w => At w S (extsL F (s0.length + 1) st0 [] s0 0).1) (fun k => k = q0 ∨ k = b) := by
  refine ⟨knownE1, fun ra ga w h1 h2 h3 hI hc => ?_⟩
  obtain ⟨hA, hH, cm, cf⟩ := hI
  obtain ⟨Y, hY⟩ : ∃ Y, Y = extsL F (s0.length + 1) st0 [] s0 0 := ⟨_, rfl⟩
  rw [← hY]
  obtain ⟨SL, hSL⟩ : ∃ SL : Nat → Prop, SL = fun k => S k ∧ k ≠ ra ∧ k ≠ b := ⟨_, rfl⟩
  have hSLr : ¬ SL ra := by rw [hSL]; rintro ⟨_, h, _⟩; exact h rfl
  have hSLq : ¬ SL q0 := by rw [hSL]; rintro ⟨h, _⟩; exact hS h
  have hSLb : ¬ SL b := by rw [hSL]; rintro ⟨_, _, h⟩; exact h rfl
  have hSLM : ∀ k, ra < k → SL k := by rw [hSL]; intro k hk; exact ⟨hSM k (by omega), by omega, by omega⟩
  have hSLS : ∀ k, SL k → S k := by rw [hSL]; intro k hk; exact hk.1
  have hL0 : LB At kf q0 w ra b bm bf SL st0 [] w := ⟨X.mono _ _ _ _ hA (fun k _ hk => by rw [hSL]; exact ⟨hk.1, by omega, fun e => hSb (e ▸ hk.1)⟩), hH, cm, cf, Only.refl _ _⟩
  have hra := hc.lt
  have H0 := Lib.hid (And.intro hL0 (And.intro hc hY))
  have HSL := Lib.hid (And.intro hSLr (And.intro hSLq (And.intro hSLb (And.intro hSLM hSLS))))
  clear hA hH cm cf hL0 hc hY hSL hSLr hSLq hSLb hSLM hSLS hS hSM hSb
  show Calls Try.prog _ #[rp ra, .pointer (some ⟨bm, 0, none⟩), .pointer (some ⟨bf, 0, none⟩)] w _
  go_enter Try.func81, Try.ntmps81
  go_wp2_with fail
  go_loopg [4] (s0.length + 1) (fun n v4 wr => ∃ st had s bad, LB At kf q0 w ra b bm bf SL st had wr ∧ Cur wr ra ga s bad ∧ extsL F n st had s bad = Y ∧ (bad = 0 → s.length < n) ∧ s.length ≤ s0.length ∧ had.length + s.length ≤ s0.length + (if bad = 0 then 0 else 1))
  case atStart => exact ⟨st0, [], s0, 0, H0.out.1, H0.out.2.1, H0.out.2.2.symm, fun _ => by omega, Nat.le_refl _, by simp⟩
  case round =>
    obtain ⟨st, had, s, bad, hL, hC, hE, hn, hsl, hhl⟩ := hrel
    have HR := Lib.hid (And.intro hL (And.intro hC (And.intro hE hhl)))
    clear hL hC hE hhl
    by_cases hs0 : s.length = 0
    · obtain rfl : s = [] := List.eq_nil_of_length_eq_zero hs0
      go_wp2_with (first
        | (go_at_call 82; refine (left_c ra ga [] bad _ HR.out.2.1).mono ?_; rintro e w1 ⟨rfl, rfl⟩))
      go_end0
      obtain ⟨hL, hC, hE, -⟩ := HR.out
      rw [extsL_stop F gk st had [] bad (.inl rfl)] at hE
      rw [← hE]
      exact ⟨rfl, hC, X.mono _ _ _ _ hL.at' (fun k _ hk => HSL.out.2.2.2.2 k hk), hL.ho⟩
    · have hpos : 0 < s.length := by omega
      have hposI : (0 : Int) < (s.length : Int) := by omega
      by_cases hbad : bad = 0
      · subst hbad
        obtain ⟨m, rfl⟩ : ∃ m, gk = m + 1 := ⟨gk - 1, by have := hn rfl; omega⟩
        have hne : s ≠ [] := by intro h; rw [h] at hs0; exact hs0 rfl
        have hless := headS_less had s hne
        have hleft := headS_left had s
        have hout := headS_out had s
        have hbig := rU_big s 0 2
        have hgo := extsL_go F m st had s hne
        have hE := HR.out.2.2.1
        rw [hgo] at hE
        have hwf : (Lit.int .i64 (rU s 0 2).1).wf = true := WalkArith.wf_i64 (by omega)
        have hhd : headS had s = ((rU s 0 2).1, (vecS (rU s 0 2).2.1 (rU s 0 2).2.2 2 0 65535).1, (vecS (rU s 0 2).2.1 (rU s 0 2).2.2 2 0 65535).2.1, if (rU s 0 2).1 ∈ had then rm (vecS (rU s 0 2).2.1 (rU s 0 2).2.2 2 0 65535).2.2 3 else (vecS (rU s 0 2).2.1 (rU s 0 2).2.2 2 0 65535).2.2) := rfl
        have HU := Lib.hid (ruint_c ra ga s 0 2)
        have hvl := rU_left s 0 2
        obtain ⟨u, hu⟩ : ∃ u, u = rU s 0 2 := ⟨_, rfl⟩
        rw [← hu] at hbig hwf hhd HU hvl
        obtain ⟨kind, s1, b1⟩ := u
        simp only at hbig hwf hhd HU hvl
        have HV := Lib.hid (fun wx (h : Cur wx ra ga s1 b1) => vector_c ra ga s1 b1 2 0 65535 wx h (by omega))
        obtain ⟨v, hv⟩ : ∃ v, v = vecS s1 b1 2 0 65535 := ⟨_, rfl⟩
        rw [← hv] at hhd HV
        obtain ⟨bs, s2, b2⟩ := v
        simp only at hhd HV
        obtain ⟨b3, hb3⟩ : ∃ b3, b3 = (if kind ∈ had then rm b2 3 else b2) := ⟨_, rfl⟩
        rw [← hb3] at hhd
        rw [hhd] at hless hleft hout hE
        simp only at hless hleft hout hE
        have HE := Lib.hid (And.intro hE hb3)
        have hn0 : s.length < m + 1 := hn rfl
        clear hu hv hgo hE hhd hb3 hne hs0 hn
        have hlt0 := HR.out.1.had'.lt
        obtain ⟨last, hlast⟩ : ∃ last, last = decide (s2 = []) := ⟨_, rfl⟩
        have hl0 : ((s2.length : Int) == 0) = last := by
          rw [hlast]
          cases s2 with
          | nil => rfl
          | cons a t => simp; omega
        have HL := Lib.hid hlast
        rw [← hlast] at HE
        clear hlast
        have HIN := Lib.hid (fun (w5 : World) (g' bk : Nat) (p : Option Addr) (c : Nat) (h : LB At kf q0 w ra b bm bf SL st (kind :: had) w5 ∧ Own w5 g' (.slice p bs.length c) bs ∧ Cur w5 ra ga s2 b3 ∧ Var w5 bk 3 (.int .i64 kind)) =>
          ext_in X (last := last) h.1 h.2.1 h.2.2.1 h.2.2.2 HSL.out.1 HSL.out.2.1 HSL.out.2.2.1 HSL.out.2.2.2.1 (by omega) (by omega) (by omega) (by omega) hbq hbmq hbfq (by omega) (by omega) hbig.1 hbig.2)
        have hup : ∀ (w4 w5 : World) (bk g' : Nat) (p : Option Addr) (c : Nat), (LB At kf q0 w ra b bm bf SL st had w4 ∧ Own w4 g' (.slice p bs.length c) bs ∧ Cur w4 ra ga s2 b3 ∧ Var w4 bk 3 (.int .i64 kind)) → HadAt w5 b (kind :: had) → Only (· = b) w4 w5 → bk ≠ b → g' ≠ b → ga ≠ b →
            LB At kf q0 w ra b bm bf SL st (kind :: had) w5 ∧ Own w5 g' (.slice p bs.length c) bs ∧ Cur w5 ra ga s2 b3 ∧ Var w5 bk 3 (.int .i64 kind) := by
          rintro w4 w5 bk g' p c ⟨hL, hO, hc, hv⟩ hh ho h5 h6 h7
          exact ⟨⟨X.only _ _ _ _ _ hL.at' ho (fun k hk => by subst hk; exact ⟨HSL.out.2.2.1, hbq⟩), hh, hL.cm.only ho (by omega), hL.cf.only ho (by omega), hL.ho.then (ho.mono (fun _ _ h => .inr (.inr h)))⟩, hO.only ho h6, hc.only ho (by omega) h7, hv.only ho h5⟩
        have HUP := Lib.hid hup
        have hvs : ∀ (w1 w3 : World) {g' : Nat} {p : Option Addr} {c : Nat}, LB At kf q0 w ra b bm bf SL st had w1 → Own w3 g' (.slice p bs.length c) bs → Cur w3 ra ga s2 b2 → Only (· = ra) (w1.alloc (.cells #[.int .i64 kind] 3)) w3 → ra < w1.heap.size →
            LB At kf q0 w ra b bm bf SL st had w3 ∧ Own w3 g' (.slice p bs.length c) bs ∧ Cur w3 ra ga s2 b2 ∧ Var w3 w1.heap.size 3 (.int .i64 kind) := by
          intro w1 w3 g' p c hL hO hc ho hlt
          refine ⟨(hL.step X ((Only.refl (fun k => k = ra) w1).alloc _) HSL.out.1 (by omega) (by omega) (by omega) (by omega)).step X ho HSL.out.1 (by omega) (by omega) (by omega) (by omega), hO, hc, (Var.new w1 _ _).only ho (by omega)⟩
        have HVS := Lib.hid hvs
        have hfs : ∀ (w3 w4 : World) (bk g' : Nat) (p : Option Addr) (c : Nat), (LB At kf q0 w ra b bm bf SL st had w3 ∧ Own w3 g' (.slice p bs.length c) bs ∧ Cur w3 ra ga s2 b2 ∧ Var w3 bk 3 (.int .i64 kind)) → Cur w4 ra ga s2 (rm b2 3) → Only (· = ra) w3 w4 → bk ≠ ra → g' ≠ ra →
            LB At kf q0 w ra b bm bf SL st had w4 ∧ Own w4 g' (.slice p bs.length c) bs ∧ Cur w4 ra ga s2 (rm b2 3) ∧ Var w4 bk 3 (.int .i64 kind) := by
          rintro w3 w4 bk g' p c ⟨hL, hO, hc, hv⟩ hc2 ho h5 h6
          exact ⟨hL.step X ho HSL.out.1 (by omega) (by omega) (by omega) (by omega), hO.only ho h6, hc2, hv.only ho h5⟩
        have HFS := Lib.hid hfs
        clear hvs hfs hup
        have hhl := HR.out.2.2.2
        rw [if_pos rfl] at hhl
        have hhad : had.length ≤ 70368744177664 := by omega
        have HHL := Lib.hid hhl
        clear hhl
        by_cases hk : kind ∈ had
        · have hkd : decide (kind ∈ had) = true := decide_eq_true hk
          have hb3 : b3 = rm b2 3 := by rw [HE.out.2, if_pos hk]
          subst hb3
          go_wp2_with (first
            | (at_lookup; refine wpList_lookup_had _ rfl _ _ rfl b had kind rfl rfl H2.out.1.had' hwf ?_; rw [hkd])
            | (at_mapUpdate; refine wpList_update_had _ rfl _ _ _ rfl b had kind rfl rfl rfl H3.out.1.had' hwf (by unfold maxLen; omega) ?_; intro w5 hH5 ho5; have H5 := Lib.hid (HUP.out _ w5 w1.heap.size g' p c H3.out hH5 ho5 (by omega) (by omega) (by omega)); clear hH5 ho5)
            | (go_at_call 82; have hq := H5; refine (left_c ra ga s2 _ _ H5.out.2.2.1).mono ?_; rintro e wl ⟨rfl, rfl⟩)
            | (go_at_call 82; refine (left_c ra ga s 0 _ HR.out.2.1).mono ?_; rintro e w1 ⟨rfl, rfl⟩)
            | (go_at_call 83; refine (isWrong_c ra ga s 0 _ HR.out.2.1).mono ?_; rintro e w1 ⟨rfl, rfl⟩)
            | (go_at_call 46; refine (HU.out _ HR.out.2.1).mono ?_; rintro e w1 ⟨rfl, hc, ho⟩; have hs1 := HR.out.1.ho.size; have hs2 := ho.size; have H1 := Lib.hid (And.intro (HR.out.1.step X ho HSL.out.1 (by omega) (by omega) (by omega) (by omega)) hc); clear hc ho)
            | (go_at_call 45; refine (HV.out _ (H1.out.2.only ((Only.refl (fun _ => False) w1).alloc _) (fun h => h) (fun h => h))).mono ?_; rintro e w3 ⟨g', p, c, rfl, hg', hO, hc, ho⟩; rw [World.size_alloc] at hg'; have H2 := Lib.hid (HVS.out w1 w3 H1.out.1 hO hc ho (by have := H1.out.2.lt; omega)); have c1 := H2.out.1.cm.c; have c2 := H2.out.2.2.2.c; clear hO hc ho)
            | (go_at_call 49; refine (fail_c ra ga s2 b2 _ H2.out.2.2.1).mono ?_; rintro e w4 ⟨rfl, hc, ho⟩; have H3 := Lib.hid (HFS.out w3 w4 w1.heap.size g' p c H2.out hc ho (by have := H1.out.2.lt; omega) (by have := H1.out.2.lt; omega)); have d1 := H3.out.1.cm.c; have d2 := H3.out.2.2.2.c; clear hc ho)
            | (go_at_call 84; refine (HIN.out w5 g' w1.heap.size p c H5.out).mono ?_; rintro e w7 ⟨rfl, hL7, hc7⟩))
          go_roundg m
          case measure => omega
          case rel =>
            refine ⟨_, kind :: had, s2, _, hL7, hc7, ?_, ?_, by omega, ?_⟩
            · exact HE.out.1
            · intro h0
              rcases hless with h | h
              · omega
              · exact absurd h0 (insB_bad h)
            · have h9 := HHL.out
              rcases hless with h | h
              · rw [List.length_cons]; split <;> omega
              · rw [if_neg (insB_bad h), List.length_cons]; omega
        · have hkd : decide (kind ∈ had) = false := decide_eq_false hk
          have hb3 : b3 = b2 := by rw [HE.out.2, if_neg hk]
          subst hb3
          go_wp2_with (first
            | (at_lookup; refine wpList_lookup_had _ rfl _ _ rfl b had kind rfl rfl H2.out.1.had' hwf ?_; rw [hkd])
            | (at_mapUpdate; refine wpList_update_had _ rfl _ _ _ rfl b had kind rfl rfl rfl H3.out.1.had' hwf (by unfold maxLen; omega) ?_; intro w5 hH5 ho5; have H5 := Lib.hid (HUP.out _ w5 w1.heap.size g' p c H3.out hH5 ho5 (by omega) (by omega) (by omega)); clear hH5 ho5)
            | (go_at_call 82; have hq := H5; refine (left_c ra ga s2 _ _ H5.out.2.2.1).mono ?_; rintro e wl ⟨rfl, rfl⟩)
            | (go_at_call 82; refine (left_c ra ga s 0 _ HR.out.2.1).mono ?_; rintro e w1 ⟨rfl, rfl⟩)
            | (go_at_call 83; refine (isWrong_c ra ga s 0 _ HR.out.2.1).mono ?_; rintro e w1 ⟨rfl, rfl⟩)
            | (go_at_call 46; refine (HU.out _ HR.out.2.1).mono ?_; rintro e w1 ⟨rfl, hc, ho⟩; have hs1 := HR.out.1.ho.size; have hs2 := ho.size; have H1 := Lib.hid (And.intro (HR.out.1.step X ho HSL.out.1 (by omega) (by omega) (by omega) (by omega)) hc); clear hc ho)
            | (go_at_call 45; refine (HV.out _ (H1.out.2.only ((Only.refl (fun _ => False) w1).alloc _) (fun h => h) (fun h => h))).mono ?_; rintro e w3 ⟨g', p, c, rfl, hg', hO, hc, ho⟩; rw [World.size_alloc] at hg'; have H2 := Lib.hid (HVS.out w1 w3 H1.out.1 hO hc ho (by have := H1.out.2.lt; omega)); have H3 := H2; have c1 := H2.out.1.cm.c; have c2 := H2.out.2.2.2.c; clear hO hc ho)
            | (go_at_call 84; refine (HIN.out w5 g' w1.heap.size p c H5.out).mono ?_; rintro e w7 ⟨rfl, hL7, hc7⟩))
          go_roundg m
          case measure => omega
          case rel =>
            refine ⟨_, kind :: had, s2, _, hL7, hc7, ?_, ?_, by omega, ?_⟩
            · exact HE.out.1
            · intro h0
              rcases hless with h | h
              · omega
              · exact absurd h0 (insB_bad h)
            · have h9 := HHL.out
              rcases hless with h | h
              · rw [List.length_cons]; split <;> omega
              · rw [if_neg (insB_bad h), List.length_cons]; omega
      · have hbb : (bad != 0) = true := by simpa using hbad
        have hbd : decide (bad ≠ 0) = true := decide_eq_true hbad
        go_wp2_with (first
          | (go_at_call 82; refine (left_c ra ga s bad _ HR.out.2.1).mono ?_; rintro e w1 ⟨rfl, rfl⟩)
          | (go_at_call 83; refine (isWrong_c ra ga s bad _ HR.out.2.1).mono ?_; rintro e w1 ⟨rfl, rfl⟩))
        go_end0
        obtain ⟨hL, hC, hE, -⟩ := HR.out
        rw [extsL_stop F gk st had s bad (.inr hbad)] at hE
        rw [← hE]
        exact ⟨rfl, hC, X.mono _ _ _ _ hL.at' (fun k _ hk => HSL.out.2.2.2.2 k hk), hL.ho⟩

set_option maxHeartbeats 4000000 in
set_option maxRecDepth 100000 in
theorem exts_c (X : Ext kf q0 At F) (S : Nat → Prop) (st : σ) (r g : Nat) (s : List UInt8) (bad : Int) (w : World) (hA : At w S st) (hC : Cur w r g s bad) (hSq : ¬ S q0) (hSr : ¬ S r) (hrq : r ≠ q0) (hgq : g ≠ q0) (hs : s.length ≤ 70368744177664) :
    Calls Try.prog 47 #[rp r, .func (.func kf) #[rp q0] #[]] w (ReadsR w r g ((vecS s bad 2 0 65535).2.1, insB (vecS s bad 2 0 65535).2.2 (extsL F ((vecS s bad 2 0 65535).1.length + 1) st [] (vecS s bad 2 0 65535).1 0).2) (fun w' => At w' (fun k => S k ∨ w.heap.size ≤ k) (extsL F ((vecS s bad 2 0 65535).1.length + 1) st [] (vecS s bad 2 0 65535).1 0).1) (· = q0)) := by
  have hmm := @run_makeMap Try.prog
  have hvo := vecS_out s bad 2 0 65535
  have hq0 := X.lt _ _ _ hA
  have hrl := hC.lt
  have hgl := hC.glt
  obtain ⟨w1, hw1⟩ : ∃ w1, w1 = w.alloc (.cells #[.func (.func kf) #[rp q0] #[]] 100) := ⟨_, rfl⟩
  obtain ⟨w2, hw2⟩ : ∃ w2, w2 = w1.alloc (.map #[] 0) := ⟨_, rfl⟩
  obtain ⟨w3, hw3⟩ : ∃ w3, w3 = w2.alloc (.cells #[.map (some (w.heap.size + 1))] 129) := ⟨_, rfl⟩
  have hz1 : w1.heap.size = w.heap.size + 1 := by rw [hw1]; exact World.size_alloc _ _
  have hz2 : w2.heap.size = w.heap.size + 2 := by rw [hw2, World.size_alloc, hz1]
  have hz3 : w3.heap.size = w.heap.size + 3 := by rw [hw3, World.size_alloc, hz2]
  have hV1 : Var w1 w.heap.size 100 (.func (.func kf) #[rp q0] #[]) := by rw [hw1]; exact Var.new _ _ _
  have hH2 : HadAt w2 (w.heap.size + 1) [] := by rw [hw2, ← hz1]; exact HadAt.new _
  have hV3 : Var w3 (w.heap.size + 2) 129 (.map (some (w.heap.size + 1))) := by rw [hw3, ← hz2]; exact Var.new _ _ _
  have ho1 : Only (fun _ => False) w w1 := by rw [hw1]; exact (Only.refl _ _).alloc _
  have ho2 : Only (fun _ => False) w1 w2 := by rw [hw2]; exact (Only.refl _ _).alloc _
  have ho3 : Only (fun _ => False) w2 w3 := by rw [hw3]; exact (Only.refl _ _).alloc _
  have ho := (ho1.then ho2).then ho3
  have hA3 := X.only _ _ _ _ _ (X.mono w S (fun k => S k ∧ k < w.heap.size) _ hA (fun k hk h => ⟨h, hk⟩)) ho (fun _ h => h.elim)
  have hC3 := hC.only ho (fun h => h) (fun h => h)
  have hH3 := hH2.only ho3 (fun h => h)
  have hV1' := (hV1.only ho2 (fun h => h)).only ho3 (fun h => h)
  obtain ⟨v, hv⟩ : ∃ v, v = vecS s bad 2 0 65535 := ⟨_, rfl⟩
  have hE1 := ext1_c X w3.heap.size (fun k => (S k ∧ k < w.heap.size) ∨ w3.heap.size ≤ k) st (w.heap.size + 1) (w.heap.size + 2) w.heap.size v.1 (by rintro (⟨h, _⟩ | h); exact hSq h; omega) (fun k hk => .inr hk) (by omega) (by omega) (by omega) (by omega) (by omega) (by omega) (by omega) (by omega) (by omega) (by rintro (⟨_, h⟩ | h) <;> omega) (by rw [hv]; omega)
  have HIN := within_c r g s bad 2 _ _ _ _ _ _ w3 hC3 (by omega)
    (fun w' ho' => ⟨X.only w3 w' (fun k => ((S k ∧ k < w.heap.size) ∨ w3.heap.size ≤ k) ∧ k < w3.heap.size) _ _ (X.mono _ _ (fun k => ((S k ∧ k < w.heap.size) ∨ w3.heap.size ≤ k) ∧ k < w3.heap.size) _ hA3 (fun k hk h => ⟨.inl h, hk⟩)) ho' (fun k hk => by subst hk; exact ⟨by rintro ⟨⟨h, _⟩ | h, _⟩; exact hSr h; omega, hrq⟩), hH3.only ho' (by omega), hV3.only ho' (by omega), hV1'.only ho' (by omega)⟩)
    (fun wa wb hj ho' => X.only _ _ _ _ _ hj ho' (fun k hk => by subst hk; exact ⟨by rintro (⟨h, _⟩ | h); exact hSr h; omega, hrq⟩))
    (hv ▸ hE1) (by rintro (h | h); exact hrq h; omega) (by rintro (h | h); exact hgq h; omega)
  rw [← hv]
  rw [← hv] at HIN
  have HN := Lib.hid (And.intro HIN (And.intro ho hSq))
  clear hV1 hH2 hV3 ho1 ho2 ho3 ho hA3 hC3 hH3 hV1' hE1 HIN hv hvo hA hC hSq hSr
  go_enter Try.func47, Try.ntmps47
  go_upto_region 2 with (fail)
  rw [← hw1, ← hw2, ← hw3]
  clear hw1 hw2 hw3
  go_wp2_with (go_at_call 80; refine HN.out.1.mono ?_; rintro e w4 ⟨rfl, hc4, hj4, ho4⟩)
  go_end0
  refine ⟨rfl, hc4, X.mono _ _ _ _ hj4 (fun k hk h => ?_), (HN.out.2.1.mono (fun _ _ h => h.elim)).trans ho4 (fun _ h => h) (fun k hk h => ?_)⟩
  · rcases h with h | h
    · exact .inl h.1
    · exact .inr (by omega)
  · rcases h with h | h | h
    · exact .inl h
    · exact .inr h
    · omega
end
end Go.Proofs.Ytegmimnhkohaoaa
/-
  Shares and ids in a row of the call's own, as cells. No condition but those that each theorem states.
-/
namespace Go.Proofs.Ytegmimnhkohaoaa
open Go.RowKit Go.Kx
set_option linter.unusedVariables false
set_option linter.unusedSimpArgs false

/-- Shares as cells, two each. -/
def ShL (w : World) (S : Nat → Prop) (L : List Value) (l : List (Int × List UInt8)) : Prop := L.length = l.length * 2 ∧ ∀ i (h : i < l.length), ∃ q m c, L[i * 2]? = some (.int .i64 l[i].1) ∧ L[i * 2 + 1]? = some (.slice q m c) ∧ l[i].2.length = m ∧ Rd w S q l[i].2 ∧ (q = none → c = 0)
theorem ShL.nil (w : World) (S : Nat → Prop) : ShL w S [] [] := ⟨rfl, fun i h => by simp at h⟩
theorem ShL.only {w w' : World} {S X : Nat → Prop} {L : List Value} {l : List (Int × List UInt8)} (h : ShL w S L l) (ho : Only X w w') (hX : ∀ k, S k → ¬ X k) : ShL w' S L l := by
  refine ⟨h.1, fun i hi => ?_⟩
  obtain ⟨q, m, c, h1, h2, h3, h4, h5⟩ := h.2 i hi
  exact ⟨q, m, c, h1, h2, h3, h4.only ho hX, h5⟩
theorem ShL.push {w : World} {S : Nat → Prop} {L : List Value} {l : List (Int × List UInt8)} (h : ShL w S L l) (a : Int × List UInt8) (q : Option Addr) (m c : Nat) (hm : a.2.length = m) (hr : Rd w S q a.2) (hn : q = none → c = 0) : ShL w S (L ++ [.int .i64 a.1, .slice q m c]) (l ++ [a]) := by
  have h0 := h.1
  refine ⟨by simp only [List.length_append, List.length_cons, List.length_nil]; omega, fun i hi => ?_⟩
  simp only [List.length_append, List.length_cons, List.length_nil] at hi
  by_cases hlt : i < l.length
  · obtain ⟨q', m', c', h1, h2, h3, h4, h5⟩ := h.2 i hlt
    rw [List.getElem_append_left hlt]
    exact ⟨q', m', c', by rw [List.getElem?_append_left (by omega)]; exact h1, by rw [List.getElem?_append_left (by omega)]; exact h2, h3, h4, h5⟩
  · obtain rfl : i = l.length := by omega
    have e : (l ++ [a])[l.length] = a := by simp
    rw [e]
    exact ⟨q, m, c, by rw [List.getElem?_append_right (by omega), h0, Nat.sub_self]; rfl, by rw [List.getElem?_append_right (by omega), h0, Nat.add_sub_cancel_left]; rfl, hm, hr, hn⟩
theorem ShL.at {w : World} {S : Nat → Prop} {L : List Value} {l : List (Int × List UInt8)} {e : TypeId} {g : Nat} {v : Value} (h : ShL w S L l) (hR : Row w e 2 g v l.length L) : ∃ p c, v = .slice p l.length c ∧ ShAt w (fun k => S k ∨ k = g) p l ∧ (p = none → c = 0) ∧ l.length ≤ c ∧ c ≤ maxLen := by
  obtain ⟨hown, hgb⟩ := hR
  have hcells := fun (g' : Nat) => hown.cells (g := g')
  obtain ⟨hlen, hcase⟩ := hown
  rcases hcase with ⟨rfl, hn⟩ | ⟨g0, cap, cur, rfl, hb, hg, hnc, hcm, hcs, htake⟩
  · exact ⟨none, 0, by rw [hn], fun i hi => by omega, fun _ => rfl, by omega, Nat.zero_le _⟩
  · have hg0 : g0 = g := by
      rcases hgb with h' | h'
      · cases h'
      · cases h'; rfl
    subst hg0
    refine ⟨some ⟨g0, 0, none⟩, cap, rfl, fun i hi => ?_, (fun h => by cases h), hnc, hcm⟩
    obtain ⟨q, m, c, h1, h2, h3, h4, h5⟩ := h.2 i hi
    have k1 := hcells g0 rfl _ _ h1
    have k2 := hcells g0 rfl _ _ h2
    have e1 : ((⟨g0, 0, none⟩ : Addr).add (i * 2)) = ⟨g0, 0 + i * 2, none⟩ := by simp [Addr.add]; omega
    have e2 : ((⟨g0, 0, none⟩ : Addr).add (i * 2 + 1)) = ⟨g0, 0 + i * 2 + 1, none⟩ := by simp [Addr.add]
    rw [e1] at k1
    rw [e2] at k2
    exact ⟨g0, 0, q, m, c, rfl, .inr rfl, k1, k2, h3, h4.mono (fun k _ hk => .inl hk), h5⟩
/-- Ids as cells, two each. -/
def IdL (w : World) (S : Nat → Prop) (L : List Value) (l : List (List UInt8 × Int)) : Prop := L.length = l.length * 2 ∧ ∀ i (h : i < l.length), ∃ q m c, L[i * 2]? = some (.slice q m c) ∧ L[i * 2 + 1]? = some (.int .i64 l[i].2) ∧ l[i].1.length = m ∧ Rd w S q l[i].1 ∧ (q = none → c = 0)
theorem IdL.nil (w : World) (S : Nat → Prop) : IdL w S [] [] := ⟨rfl, fun i h => by simp at h⟩
theorem IdL.only {w w' : World} {S X : Nat → Prop} {L : List Value} {l : List (List UInt8 × Int)} (h : IdL w S L l) (ho : Only X w w') (hX : ∀ k, S k → ¬ X k) : IdL w' S L l := by
  refine ⟨h.1, fun i hi => ?_⟩
  obtain ⟨q, m, c, h1, h2, h3, h4, h5⟩ := h.2 i hi
  exact ⟨q, m, c, h1, h2, h3, h4.only ho hX, h5⟩
theorem IdL.push {w : World} {S : Nat → Prop} {L : List Value} {l : List (List UInt8 × Int)} (h : IdL w S L l) (a : List UInt8 × Int) (q : Option Addr) (m c : Nat) (hm : a.1.length = m) (hr : Rd w S q a.1) (hn : q = none → c = 0) : IdL w S (L ++ [.slice q m c, .int .i64 a.2]) (l ++ [a]) := by
  have h0 := h.1
  refine ⟨by simp only [List.length_append, List.length_cons, List.length_nil]; omega, fun i hi => ?_⟩
  simp only [List.length_append, List.length_cons, List.length_nil] at hi
  by_cases hlt : i < l.length
  · obtain ⟨q', m', c', h1, h2, h3, h4, h5⟩ := h.2 i hlt
    rw [List.getElem_append_left hlt]
    exact ⟨q', m', c', by rw [List.getElem?_append_left (by omega)]; exact h1, by rw [List.getElem?_append_left (by omega)]; exact h2, h3, h4, h5⟩
  · obtain rfl : i = l.length := by omega
    have e : (l ++ [a])[l.length] = a := by simp
    rw [e]
    exact ⟨q, m, c, by rw [List.getElem?_append_right (by omega), h0, Nat.sub_self]; rfl, by rw [List.getElem?_append_right (by omega), h0, Nat.add_sub_cancel_left]; rfl, hm, hr, hn⟩
theorem IdL.at {w : World} {S : Nat → Prop} {L : List Value} {l : List (List UInt8 × Int)} {e : TypeId} {g : Nat} {v : Value} (h : IdL w S L l) (hR : Row w e 2 g v l.length L) : ∃ p c, v = .slice p l.length c ∧ IdAt w (fun k => S k ∨ k = g) p l ∧ (p = none → c = 0) ∧ l.length ≤ c ∧ c ≤ maxLen := by
  obtain ⟨hown, hgb⟩ := hR
  have hcells := fun (g' : Nat) => hown.cells (g := g')
  obtain ⟨hlen, hcase⟩ := hown
  rcases hcase with ⟨rfl, hn⟩ | ⟨g0, cap, cur, rfl, hb, hg, hnc, hcm, hcs, htake⟩
  · exact ⟨none, 0, by rw [hn], fun i hi => by omega, fun _ => rfl, by omega, Nat.zero_le _⟩
  · have hg0 : g0 = g := by
      rcases hgb with h' | h'
      · cases h'
      · cases h'; rfl
    subst hg0
    refine ⟨some ⟨g0, 0, none⟩, cap, rfl, fun i hi => ?_, (fun h => by cases h), hnc, hcm⟩
    obtain ⟨q, m, c, h1, h2, h3, h4, h5⟩ := h.2 i hi
    have k1 := hcells g0 rfl _ _ h1
    have k2 := hcells g0 rfl _ _ h2
    have e1 : ((⟨g0, 0, none⟩ : Addr).add (i * 2)) = ⟨g0, 0 + i * 2, none⟩ := by simp [Addr.add]; omega
    have e2 : ((⟨g0, 0, none⟩ : Addr).add (i * 2 + 1)) = ⟨g0, 0 + i * 2 + 1, none⟩ := by simp [Addr.add]
    rw [e1] at k1
    rw [e2] at k2
    exact ⟨g0, 0, q, m, c, rfl, .inr rfl, k1, k2, h3, h4.mono (fun k _ hk => .inl hk), h5⟩
end Go.Proofs.Ytegmimnhkohaoaa
/-
  Lists that are read one after another into a variable of the call's own: plain laws. No condition but those that each theorem states.
-/
namespace Go.Proofs.Ytegmimnhkohaoaa
open Go.RowKit Go.Kx
set_option linter.unusedVariables false
set_option linter.unusedSimpArgs false

/-- One after another, as long as something is left and nothing is wrong. -/
def loopL {α : Type} (F : List UInt8 → α × List UInt8 × Int) : Nat → List UInt8 → Int → List α × List UInt8 × Int
  | 0, s, bad => ([], s, bad)
  | n + 1, s, bad => if s = [] ∨ bad ≠ 0 then ([], s, bad) else ((F s).1 :: (loopL F n (F s).2.1 (F s).2.2).1, (loopL F n (F s).2.1 (F s).2.2).2)
section
variable {α : Type} (F : List UInt8 → α × List UInt8 × Int)
theorem loopL_stop (n : Nat) (s : List UInt8) (bad : Int) (h : s = [] ∨ bad ≠ 0) : loopL F n s bad = ([], s, bad) := by
  cases n with
  | zero => rfl
  | succ n => unfold loopL; rw [if_pos h]
theorem loopL_go (n : Nat) (s : List UInt8) (h : s ≠ []) : loopL F (n + 1) s 0 = ((F s).1 :: (loopL F n (F s).2.1 (F s).2.2).1, (loopL F n (F s).2.1 (F s).2.2).2) := by
  conv => lhs; unfold loopL
  rw [if_neg (by simp [h])]
/-- What was read, and what will be. -/
def joinL (A : List α) (z : List α × List UInt8 × Int) : List α × List UInt8 × Int := (A ++ z.1, z.2)
theorem joinL_nil (z : List α × List UInt8 × Int) : joinL [] z = z := rfl
theorem joinL_go (A : List α) (n : Nat) (s : List UInt8) (h : s ≠ []) : joinL A (loopL F (n + 1) s 0) = joinL (A ++ [(F s).1]) (loopL F n (F s).2.1 (F s).2.2) := by
  rw [loopL_go F n s h]
  unfold joinL
  simp
theorem joinL_stop (A : List α) (n : Nat) (s : List UInt8) (bad : Int) (h : s = [] ∨ bad ≠ 0) : joinL A (loopL F n s bad) = (A, s, bad) := by
  rw [loopL_stop F n s bad h]
  unfold joinL
  simp
end
theorem loopL_len {α : Type} (F : List UInt8 → α × List UInt8 × Int) (hF : ∀ s, s ≠ [] → (F s).2.1.length + 1 ≤ s.length ∨ (F s).2.2 ≠ 0) (hF2 : ∀ s, (F s).2.1.length ≤ s.length) : ∀ (n : Nat) (s : List UInt8) (bad : Int), (loopL F n s bad).1.length ≤ s.length + 1
  | 0, s, bad => by simp [loopL]
  | n + 1, s, bad => by
    by_cases h : s = [] ∨ bad ≠ 0
    · rw [loopL_stop F _ s bad h]; simp
    · have hs : s ≠ [] := fun e => h (.inl e)
      have hb : bad = 0 := Classical.byContradiction fun e => h (.inr e)
      subst hb
      rw [loopL_go F n s hs]
      have ih := loopL_len F hF hF2 n (F s).2.1 (F s).2.2
      rcases hF s hs with h1 | h1
      · simp only [List.length_cons]; omega
      · rw [loopL_stop F n _ _ (.inr h1)] at ih ⊢
        simp

/-! ### Rows of elements -/
def NuL (w : World) (S : Nat → Prop) (L : List Value) (l : List Int) : Prop := L = l.map I64
/-- Slices of bytes as cells, one each. -/
def BdL (w : World) (S : Nat → Prop) (L : List Value) (l : List (List UInt8)) : Prop := L.length = l.length ∧ ∀ i (h : i < l.length), ∃ q m c, L[i]? = some (.slice q m c) ∧ l[i].length = m ∧ Rd w S q l[i] ∧ (q = none → c = 0)
theorem BdL.push {w : World} {S : Nat → Prop} {L : List Value} {l : List (List UInt8)} (h : BdL w S L l) (a : List UInt8) (q : Option Addr) (m c : Nat) (hm : a.length = m) (hr : Rd w S q a) (hn : q = none → c = 0) : BdL w S (L ++ [.slice q m c]) (l ++ [a]) := by
  have h0 := h.1
  refine ⟨by simp only [List.length_append, List.length_cons, List.length_nil]; omega, fun i hi => ?_⟩
  simp only [List.length_append, List.length_cons, List.length_nil] at hi
  by_cases hlt : i < l.length
  · obtain ⟨q', m', c', h1, h3, h4, h5⟩ := h.2 i hlt
    rw [List.getElem_append_left hlt]
    exact ⟨q', m', c', by rw [List.getElem?_append_left (by omega)]; exact h1, h3, h4, h5⟩
  · obtain rfl : i = l.length := by omega
    have e : (l ++ [a])[l.length] = a := by simp
    rw [e]
    exact ⟨q, m, c, by rw [List.getElem?_append_right (by omega), h0, Nat.sub_self]; rfl, hm, hr, hn⟩
theorem BdL.at {w : World} {S : Nat → Prop} {L : List Value} {l : List (List UInt8)} {e : TypeId} {g : Nat} {v : Value} (h : BdL w S L l) (hR : Row w e 1 g v l.length L) : ∃ p c, v = .slice p l.length c ∧ BdAt w (fun k => S k ∨ k = g) p l ∧ (p = none → c = 0) ∧ l.length ≤ c ∧ c ≤ maxLen := by
  obtain ⟨hown, hgb⟩ := hR
  have hcells := fun (g' : Nat) => hown.cells (g := g')
  obtain ⟨hlen, hcase⟩ := hown
  rcases hcase with ⟨rfl, hn⟩ | ⟨g0, cap, cur, rfl, hb, hg, hnc, hcm, hcs, htake⟩
  · exact ⟨none, 0, by rw [hn], fun i hi => by omega, fun _ => rfl, by omega, Nat.zero_le _⟩
  · have hg0 : g0 = g := by
      rcases hgb with h' | h'
      · cases h'
      · cases h'; rfl
    subst hg0
    refine ⟨some ⟨g0, 0, none⟩, cap, rfl, fun i hi => ?_, (fun h => by cases h), hnc, hcm⟩
    obtain ⟨q, m, c, h1, h3, h4, h5⟩ := h.2 i hi
    have k1 := hcells g0 rfl _ _ h1
    have e1 : ((⟨g0, 0, none⟩ : Addr).add i) = ⟨g0, 0 + i, none⟩ := by unfold Addr.add; split <;> simp_all
    rw [e1] at k1
    exact ⟨g0, 0, q, m, c, rfl, .inr rfl, k1, h3, h4.mono (fun k _ hk => .inl hk), h5⟩
theorem NuL.at {w : World} {S : Nat → Prop} {L : List Value} {l : List Int} {e : TypeId} {g : Nat} {v : Value} (h : NuL w S L l) (hR : Row w e 1 g v l.length L) : ∃ p c, v = .slice p l.length c ∧ RdI w (fun k => S k ∨ k = g) p l ∧ (p = none → c = 0) ∧ l.length ≤ c ∧ c ≤ maxLen := by
  unfold NuL at h
  subst h
  obtain ⟨hown, hgb⟩ := hR
  have hcells := fun (g' : Nat) => hown.cells (g := g')
  obtain ⟨hlen, hcase⟩ := hown
  rcases hcase with ⟨rfl, hn⟩ | ⟨g0, cap, cur, rfl, hb, hg, hnc, hcm, hcs, htake⟩
  · have : l = [] := List.length_eq_zero_iff.1 hn
    subst this
    exact ⟨none, 0, rfl, RdV.nil _ _ _, fun _ => rfl, by simp, Nat.zero_le _⟩
  · have hg0 : g0 = g := by
      rcases hgb with h' | h'
      · cases h'
      · cases h'; rfl
    subst hg0
    refine ⟨some ⟨g0, 0, none⟩, cap, rfl, fun i hi => ⟨_, rfl, .inr rfl, ?_⟩, (fun h => by cases h), hnc, hcm⟩
    exact hcells g0 rfl i _ (by rw [List.getElem?_eq_getElem hi])
theorem ShL.mono {w : World} {S T : Nat → Prop} {L : List Value} {l : List (Int × List UInt8)} (h : ShL w S L l) (hT : ∀ k, k < w.heap.size → S k → T k) : ShL w T L l :=
  ⟨h.1, fun i hi => by obtain ⟨q, m, c, h1, h2, h3, h4, h5⟩ := h.2 i hi; exact ⟨q, m, c, h1, h2, h3, h4.mono hT, h5⟩⟩
theorem IdL.mono {w : World} {S T : Nat → Prop} {L : List Value} {l : List (List UInt8 × Int)} (h : IdL w S L l) (hT : ∀ k, k < w.heap.size → S k → T k) : IdL w T L l :=
  ⟨h.1, fun i hi => by obtain ⟨q, m, c, h1, h2, h3, h4, h5⟩ := h.2 i hi; exact ⟨q, m, c, h1, h2, h3, h4.mono hT, h5⟩⟩

/-- How a row of elements is told. -/
structure RowK {α : Type} (P : World → (Nat → Prop) → List Value → List α → Prop) : Prop where
  only : ∀ {w w' : World} {S X : Nat → Prop} {L : List Value} {l : List α}, P w S L l → Only X w w' → (∀ k, S k → ¬ X k) → P w' S L l
  mono : ∀ {w : World} {S T : Nat → Prop} {L : List Value} {l : List α}, P w S L l → (∀ k, k < w.heap.size → S k → T k) → P w T L l
  nil : ∀ (w : World) (S : Nat → Prop), P w S [] []
theorem nuK : RowK NuL := ⟨fun h _ _ => h, fun h _ => h, fun _ _ => rfl⟩
theorem shK : RowK ShL := ⟨fun h ho hX => h.only ho hX, fun h hT => h.mono hT, fun w S => ShL.nil w S⟩
theorem idK : RowK IdL := ⟨fun h ho hX => h.only ho hX, fun h hT => h.mono hT, fun w S => IdL.nil w S⟩
theorem bdK : RowK BdL := ⟨fun h ho hX => ⟨h.1, fun i hi => by obtain ⟨q, m, c, h1, h3, h4, h5⟩ := h.2 i hi; exact ⟨q, m, c, h1, h3, h4.only ho hX, h5⟩⟩,
  fun h hT => ⟨h.1, fun i hi => by obtain ⟨q, m, c, h1, h3, h4, h5⟩ := h.2 i hi; exact ⟨q, m, c, h1, h3, h4.mono hT, h5⟩⟩, fun w S => ⟨rfl, fun i h => by simp at h⟩⟩

/-- The variable in block bc holds a slice of the call's own; its elements are A; all that it has lies in blocks from M on. -/
def Held {α : Type} (P : World → (Nat → Prop) → List Value → List α → Prop) (w : World) (bc t e sz M : Nat) (A : List α) : Prop :=
  ∃ p c g L, Var w bc t (.slice p A.length c) ∧ Row w e sz g (.slice p A.length c) A.length L ∧ M ≤ g ∧ P w (fun k => M ≤ k ∧ k ≠ g) L A ∧ (A.length = 0 → p = none ∧ c = 0)
section
variable {α : Type} {P : World → (Nat → Prop) → List Value → List α → Prop} {w w' wr w1 w5 : World} {bc t e sz M N ra g2 g3 : Nat} {A : List α}
theorem Held.only {q : Nat → Prop} (K : RowK P) (h : Held P w bc t e sz M A) (ho : Only q w w') (h1 : ¬ q bc) (h2 : ∀ k, M ≤ k → ¬ q k) : Held P w' bc t e sz M A := by
  obtain ⟨p, c, g, L, h3, h4, h5, h6, h7⟩ := h
  exact ⟨p, c, g, L, h3.only ho h1, h4.only ho (h2 g h5), h5, K.only h6 ho (fun k hk => h2 k hk.1), h7⟩
theorem Held.nil (K : RowK P) (h : Var w bc t (.slice none 0 0)) : Held P w bc t e sz M [] := ⟨none, 0, M, [], h, Row.nil _ _ _ _, Nat.le_refl _, K.nil _ _, fun _ => ⟨rfl, rfl⟩⟩
theorem Held.mono (K : RowK P) (h : Held P w bc t e sz N A) (hM : M ≤ N) : Held P w bc t e sz M A := by
  obtain ⟨p, c, g, L, h3, h4, h5, h6, h7⟩ := h
  exact ⟨p, c, g, L, h3, h4, by omega, K.mono h6 (fun k _ hk => ⟨by omega, hk.2⟩), h7⟩
/-- The slice ahead of a round, and what becomes of it while a Reader reads. -/
theorem Held.parts (K : RowK P) (h : Held P wr bc t e sz M A) (hbc : bc < M) (hra : ra < M) (hbr : bc ≠ ra) : ∃ p c, Var wr bc t (.slice p A.length c) ∧ ∀ w1, Only (· = ra) wr w1 → ∃ g3 L, Var w1 bc t (.slice p A.length c) ∧ Row w1 e sz g3 (.slice p A.length c) A.length L ∧ P w1 (fun k => M ≤ k ∧ k ≠ g3 ∧ k < wr.heap.size) L A ∧ M ≤ g3 ∧ (g3 < wr.heap.size ∨ g3 = w1.heap.size + M) := by
  obtain ⟨p, c, g, L, h3, h4, h5, h6, h7⟩ := h
  refine ⟨p, c, h3, fun w1 ho => ?_⟩
  have h3' := h3.only ho hbr
  by_cases h0 : A.length = 0
  · obtain ⟨rfl, rfl⟩ := h7 h0
    have hA : A = [] := List.length_eq_zero_iff.1 h0
    subst hA
    exact ⟨w1.heap.size + M, [], h3', Row.nil _ _ _ _, K.nil _ _, by omega, .inr rfl⟩
  · obtain ⟨_, _, _, hf, _⟩ := Row.form h4
    have hlt := (hf (by omega)).2
    exact ⟨g, L, h3', h4.only ho (by omega), K.only (K.mono h6 (fun k hk hh => ⟨hh.1, hh.2, hk⟩)) ho (by intro k hk e; omega), h5, .inl hlt⟩
/-- One element more. -/
theorem Held.step (K : RowK P) {L vs : List Value} {a : α} {v0 : Value} {p5 : Option Addr} {k5 : Nat} (hP : P w1 (fun k => M ≤ k ∧ k ≠ g3 ∧ k < wr.heap.size) L A) (hM3 : M ≤ g3) (hg3 : g3 < wr.heap.size ∨ g3 = w1.heap.size + M) (hz : wr.heap.size ≤ w1.heap.size) (hM1 : M ≤ wr.heap.size)
    (hV5 : Var w5 bc t v0) (hrow : Row w5 e sz g2 (.slice p5 (A.length + 1) k5) (A.length + 1) (L ++ vs)) (hg2 : g2 = g3 ∨ g2 = w1.heap.size + 1) (hO : Only (· = g3) w1 w5) (hbc : bc < M)
    (hpush : ∀ (S : Nat → Prop) w', (∀ k, wr.heap.size ≤ k → k < w1.heap.size → S k) → Only (fun k => k = g3 ∨ k = bc) w1 w' → P w' S L A → P w' S (L ++ vs) (A ++ [a])) :
    Held P (w5.setCell ⟨bc, 0, none⟩ (.slice p5 (A.length + 1) k5)) bc t e sz M (A ++ [a]) := by
  have hO6 : Only (fun k => k = bc) w5 (w5.setCell ⟨bc, 0, none⟩ (.slice p5 (A.length + 1) k5)) := (Only.refl _ _).setCell _ _ (.inl rfl)
  have hO16 : Only (fun k => k = g3 ∨ k = bc) w1 (w5.setCell ⟨bc, 0, none⟩ (.slice p5 (A.length + 1) k5)) := (hO.mono (fun _ _ h => .inl h)).then (hO6.mono (fun _ _ h => .inr h))
  have hx5 : Var (w5.setCell ⟨bc, 0, none⟩ (.slice p5 (A.length + 1) k5)) bc t (.slice p5 (A.length + 1) k5) := by
    unfold Var at *
    simp [World.setCell, Array.getElem?_modify, hV5]
  have hlen : (A ++ [a]).length = A.length + 1 := by simp
  refine ⟨p5, k5, g2, L ++ vs, by rw [hlen]; exact hx5, by rw [hlen]; exact hrow.only hO6 (by omega), by omega, ?_, by intro h; omega⟩
  refine hpush _ _ (fun k h1 h2 => ⟨by omega, by omega⟩) hO16 ?_
  exact K.mono (K.only hP hO16 (by intro k hk e; omega)) (fun k _ hk => ⟨hk.1, fun e => by have h2 := hk.2.1; have h3 := hk.2.2; omega⟩)
end
/-- What the loop keeps. -/
structure NB {α : Type} (P : World → (Nat → Prop) → List Value → List α → Prop) (w0 : World) (ra ga bc t e sz M : Nat) (A : List α) (s : List UInt8) (bad : Int) (wx : World) : Prop where
  held : Held P wx bc t e sz M A
  cur : Cur wx ra ga s bad
  ho : Only (fun k => k = ra ∨ k = bc) w0 wx
theorem only_loop {w wr w1 w5 : World} {ra bc g3 : Nat} {v : Value} (h1 : Only (fun k => k = ra ∨ k = bc) w wr) (h2 : Only (· = ra) wr w1) (h3 : Only (· = g3) w1 w5) (hg : w.heap.size ≤ g3) : Only (fun k => k = ra ∨ k = bc) w (w5.setCell ⟨bc, 0, none⟩ v) :=
  ((h1.then (h2.mono (fun _ _ h => .inl h))).trans h3 (fun _ h => h) (fun k hk h => by omega)).setCell _ _ (.inl (.inr rfl))

theorem own_nilc {w : World} {g n c : Nat} {p : Option Addr} {l : List UInt8} (h : Own w g (.slice p n c) l) : p = none → c = 0 := by
  obtain ⟨p', c', he, _, _, _, hp, _⟩ := h.form
  cases he
  exact hp
theorem own_lt {w : World} {g n c : Nat} {p : Option Addr} {l : List UInt8} (h : Own w g (.slice p n c) l) : g < w.heap.size ∨ l.length = 0 := by
  obtain ⟨p', c', he, hl, hc, hr, hp, ha⟩ := h.form
  cases he
  cases p with
  | none => rw [hr.none_nil]; exact .inr rfl
  | some a => exact .inl (ha a rfl).2
theorem rd_new {w1 w' : World} {S : Nat → Prop} {kg n c Z g3 bc : Nat} {p : Option Addr} {l : List UInt8} (h : Own w1 kg (.slice p n c) l) (hz : Z ≤ kg) (hkl : kg < w1.heap.size ∨ l.length = 0) (hS : ∀ k, Z ≤ k → k < w1.heap.size → S k) (ho : Only (fun k => k = g3 ∨ k = bc) w1 w') (h1 : kg < w1.heap.size → kg ≠ g3) (h2 : bc < Z) : Rd w' S p l := by
  by_cases hl : kg < w1.heap.size
  · exact (h.rd.only ho (fun k e => by have := h1 hl; omega)).mono (fun k _ e => hS k (by omega) (by omega))
  · have : l = [] := List.length_eq_zero_iff.1 (by rcases hkl with h | h; exact absurd h hl; exact h)
    subst this
    exact Rd.nil _ _ _
theorem cell_two (w : World) (x y : Value) (t : TypeId) : ∀ j u, [x, y][j]? = some u → (w.alloc (.cells #[x, y] t)).cell? ((⟨w.heap.size, 0, none⟩ : Addr).add j) = some u := by
  intro j u hu
  rcases j with _ | _ | j
  · simp at hu; subst hu; simp [Addr.add, World.cell?_alloc_at]
  · simp at hu; subst hu; simp [Addr.add, World.cell?_alloc_at]
  · simp at hu
/-- A number of two bytes. -/
def uF (s : List UInt8) : Int × List UInt8 × Int := rU s 0 2
theorem rU_less (s : List UInt8) (W : Int) (hW : 1 ≤ W) (hs : s ≠ []) : (rU s 0 W).2.1.length + 1 ≤ s.length ∨ (rU s 0 W).2.2 ≠ 0 := by
  by_cases h : (rU s 0 W).2.2 = 0
  · left
    unfold rU at h ⊢
    simp only at h ⊢
    have h0 : s.length ≠ 0 := by simpa using hs
    unfold leftS
    rw [if_pos h, List.length_drop]
    omega
  · exact .inr h
theorem uF_less (s : List UInt8) (hs : s ≠ []) : (uF s).2.1.length + 1 ≤ s.length ∨ (uF s).2.2 ≠ 0 := rU_less s 2 (by decide) hs
theorem uF_left (s : List UInt8) : (uF s).2.1.length ≤ s.length := rU_left s 0 2
/-- A wrong number makes the bytes behind it wrong. -/
theorem vecS_bad (s : List UInt8) (bad W l m : Int) (h : bad ≠ 0) : (vecS s bad W l m).2.2 ≠ 0 := by
  unfold vecS
  simp only
  have h1 : (rU s bad W).2.2 ≠ 0 := badS_ne (by unfold wb rm; split <;> simp_all)
  have hb := badS_ne (s := (rU s bad W).2.1) (n := (rU s bad W).1) h1
  split
  · show (3 : Int) ≠ 0
    decide
  · exact hb
theorem rU_bad (s : List UInt8) (bad W : Int) (h : bad ≠ 0) : (rU s bad W).2.2 ≠ 0 := badS_ne (by unfold wb rm; split <;> simp_all)
theorem vecS_less (s : List UInt8) (W l m : Int) (hW : 1 ≤ W) (hs : s ≠ []) : (vecS s 0 W l m).2.1.length + 1 ≤ s.length ∨ (vecS s 0 W l m).2.2 ≠ 0 := by
  rcases rU_less s W hW hs with h | h
  · left
    have h1 := vecS_left s 0 W l m
    have h2 : (vecS s 0 W l m).2.1.length ≤ (rU s 0 W).2.1.length := by
      unfold vecS
      simp only
      split <;> exact leftS_le _ _ _
    omega
  · right
    unfold vecS
    simp only
    have hb := badS_ne (s := (rU s 0 W).2.1) (n := (rU s 0 W).1) h
    split
    · show (3 : Int) ≠ 0
      decide
    · exact hb
/-- A share; a ticket and its age; a binder. -/
def kF (s : List UInt8) : (Int × List UInt8) × List UInt8 × Int := (((rU s 0 2).1, (vecS (rU s 0 2).2.1 (rU s 0 2).2.2 2 1 64).1), (vecS (rU s 0 2).2.1 (rU s 0 2).2.2 2 1 64).2)
def iF (s : List UInt8) : (List UInt8 × Int) × List UInt8 × Int := (((vecS s 0 2 1 255).1, (rU (vecS s 0 2 1 255).2.1 (vecS s 0 2 1 255).2.2 4).1), (rU (vecS s 0 2 1 255).2.1 (vecS s 0 2 1 255).2.2 4).2)
def bF (s : List UInt8) : List UInt8 × List UInt8 × Int := vecS s 0 1 32 32
theorem kF_left (s : List UInt8) : (kF s).2.1.length ≤ s.length := Nat.le_trans (vecS_left _ _ _ _ _) (rU_left _ _ _)
theorem iF_left (s : List UInt8) : (iF s).2.1.length ≤ s.length := Nat.le_trans (rU_left _ _ _) (vecS_left _ _ _ _ _)
theorem bF_left (s : List UInt8) : (bF s).2.1.length ≤ s.length := vecS_left _ _ _ _ _
theorem kF_less (s : List UInt8) (hs : s ≠ []) : (kF s).2.1.length + 1 ≤ s.length ∨ (kF s).2.2 ≠ 0 := by
  rcases rU_less s 2 (by decide) hs with h | h
  · have := vecS_left (rU s 0 2).2.1 (rU s 0 2).2.2 2 1 64
    exact .inl (by show (vecS _ _ _ _ _).2.1.length + 1 ≤ _; omega)
  · exact .inr (vecS_bad _ _ _ _ _ h)
theorem iF_less (s : List UInt8) (hs : s ≠ []) : (iF s).2.1.length + 1 ≤ s.length ∨ (iF s).2.2 ≠ 0 := by
  rcases vecS_less s 2 1 255 (by decide) hs with h | h
  · have := rU_left (vecS s 0 2 1 255).2.1 (vecS s 0 2 1 255).2.2 4
    exact .inl (by show (rU _ _ _).2.1.length + 1 ≤ _; omega)
  · exact .inr (rU_bad _ _ _ h)
theorem bF_less (s : List UInt8) (hs : s ≠ []) : (bF s).2.1.length + 1 ≤ s.length ∨ (bF s).2.2 ≠ 0 := vecS_less s 1 32 32 (by decide) hs
end Go.Proofs.Ytegmimnhkohaoaa
