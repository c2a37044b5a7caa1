/-
  What the closures of hello.PutClient put. Conditions: those of Fit (at most 2 to the 46th bytes in all).
-/
import Derived.Test.YtegmimnhkohaoaaZg4
import Derived.Test.YtegmimnhkohaoaaZg7
namespace Go.Proofs.Ytegmimnhkohaoaa
open Go.RowKit Go.Kx
set_option linter.unusedVariables false
set_option linter.unusedSimpArgs false
set_option maxRecDepth 100000

/-- There is room for all of it. -/
structure Fit (s : Cl) : Prop where
  f1 : s.suites.length ≤ 8796093022208
  f2 : s.vers.length ≤ 8796093022208
  f3 : s.grps.length ≤ 8796093022208
  f4 : s.schs.length ≤ 8796093022208
  f5 : 65541 * s.shs.length ≤ 70368744177664
  f6 : 65541 * s.ids.length ≤ 70368744177664
  f7 : 256 * s.bnd.length ≤ 70368744177664
def wSh (x : WS) (l : List (Int × List UInt8)) : WS := l.foldl (fun y t => wS y t.1 t.2) x
theorem wSh_snoc (x : WS) (l : List (Int × List UInt8)) (t : Int × List UInt8) : wSh x (l ++ [t]) = wS (wSh x l) t.1 t.2 := by unfold wSh; simp only [List.foldl_append, List.foldl_cons, List.foldl_nil]
theorem wSh_len (l : List (Int × List UInt8)) : ∀ x : WS, (wSh x l).1.length ≤ x.1.length + 65541 * l.length := by
  induction l with
  | nil => intro x; unfold wSh; simp only [List.foldl_nil, List.length_nil]; omega
  | cons b t ih =>
    intro x
    have h1 := ih (wS x b.1 b.2)
    have h2 := wV_len (wU x b.1 2) b.2 2 1 64 (by decide)
    have h3 := wU_len x b.1 2 (by decide)
    have h4 : (wS x b.1 b.2).1.length ≤ x.1.length + 65541 := by unfold wS; omega
    have h5 : wSh x (b :: t) = wSh (wS x b.1 b.2) t := by unfold wSh; simp only [List.foldl_cons]
    rw [h5, List.length_cons]
    omega
def yC1 (s : Cl) : WS := wL ([], false) s.vers 1 4
def yC2 (s : Cl) : WS := wL ([], false) s.grps 2 4
def yC3 (s : Cl) : WS := wL ([], false) s.schs 2 4
def yC5 (s : Cl) : WS := wV ([], false) s.cook 2 1 64
def yC6 (s : Cl) : WS := wV ([], false) s.modes 1 1 4
def yC4 (s : Cl) : WS := wN (wM ([], false) (decide (s.shs.length ≤ 4))) (wSh ([], false) s.shs) 2
def yC7 (s : Cl) : WS := wN (wN ([], false) (wId (wM ([], false) (decide (s.ids.length ≤ 4))) s.ids) 2) (wB ([], false) s.bnd) 2
attribute [local irreducible] wV wU wS wL wN
theorem pc1_c (s : Cl) (z : Z10) (M q : Nat) (w : World) (h : IsCl w (· < M) s z) (hM : M ≤ w.heap.size) (hB : Blk w q 56 (clV s z)) (hf : Fit s) : Puts w 87 (rp q) (yC1 s) := by
  refine ⟨fun _ _ => by kernel_rfl, fun r w1 hr hb hW => ?_⟩
  have c := (hB.below hb).d34 h.len
  have H3 := Lib.hid (And.intro (h.below hb).s3 hf.f2)
  clear h hb hf hB
  go_enter Try.func87, Try.ntmps87
  go_wp2_with (go_at_call 51; refine (wlist_c r _ _ _ _ s.vers 1 4 _ hW (H3.out.1.2.1.mono (fun k _ hk => by omega)) H3.out.1.1 (by rw [← H3.out.1.1]; exact H3.out.2) nil_le (by decide)).mono ?_; rintro e w2 ⟨rfl, hX, ho⟩)
  go_end0
  exact ⟨rfl, hX, ho⟩
theorem pc2_c (s : Cl) (z : Z10) (M q : Nat) (w : World) (h : IsCl w (· < M) s z) (hM : M ≤ w.heap.size) (hB : Blk w q 56 (clV s z)) (hf : Fit s) : Puts w 88 (rp q) (yC2 s) := by
  refine ⟨fun _ _ => by kernel_rfl, fun r w1 hr hb hW => ?_⟩
  have c := (hB.below hb).d35 h.len
  have H3 := Lib.hid (And.intro (h.below hb).s4 hf.f3)
  clear h hb hf hB
  go_enter Try.func88, Try.ntmps88
  go_wp2_with (go_at_call 51; refine (wlist_c r _ _ _ _ s.grps 2 4 _ hW (H3.out.1.2.1.mono (fun k _ hk => by omega)) H3.out.1.1 (by rw [← H3.out.1.1]; exact H3.out.2) nil_le (by decide)).mono ?_; rintro e w2 ⟨rfl, hX, ho⟩)
  go_end0
  exact ⟨rfl, hX, ho⟩
theorem pc3_c (s : Cl) (z : Z10) (M q : Nat) (w : World) (h : IsCl w (· < M) s z) (hM : M ≤ w.heap.size) (hB : Blk w q 56 (clV s z)) (hf : Fit s) : Puts w 89 (rp q) (yC3 s) := by
  refine ⟨fun _ _ => by kernel_rfl, fun r w1 hr hb hW => ?_⟩
  have c := (hB.below hb).d36 h.len
  have H3 := Lib.hid (And.intro (h.below hb).s5 hf.f4)
  clear h hb hf hB
  go_enter Try.func89, Try.ntmps89
  go_wp2_with (go_at_call 51; refine (wlist_c r _ _ _ _ s.schs 2 4 _ hW (H3.out.1.2.1.mono (fun k _ hk => by omega)) H3.out.1.1 (by rw [← H3.out.1.1]; exact H3.out.2) nil_le (by decide)).mono ?_; rintro e w2 ⟨rfl, hX, ho⟩)
  go_end0
  exact ⟨rfl, hX, ho⟩
theorem pc5_c (s : Cl) (z : Z10) (M q : Nat) (w : World) (h : IsCl w (· < M) s z) (hM : M ≤ w.heap.size) (hB : Blk w q 56 (clV s z)) : Puts w 92 (rp q) (yC5 s) := by
  refine ⟨fun _ _ => by kernel_rfl, fun r w1 hr hb hW => ?_⟩
  have c := (hB.below hb).d38 h.len
  have H3 := Lib.hid (h.below hb).s7
  clear h hb hB
  go_enter Try.func92, Try.ntmps92
  go_wp2_with (go_at_call 31; refine (wvec_c r _ _ _ _ s.cook 2 1 64 _ hW H3.out.1 (H3.out.2.1.mono (fun k _ hk => by omega)) H3.out.2.2.1 (by decide) nil_le).mono ?_; rintro e w2 ⟨rfl, hX, ho⟩)
  go_end0
  exact ⟨rfl, hX, ho⟩
theorem pc6_c (s : Cl) (z : Z10) (M q : Nat) (w : World) (h : IsCl w (· < M) s z) (hM : M ≤ w.heap.size) (hB : Blk w q 56 (clV s z)) : Puts w 93 (rp q) (yC6 s) := by
  refine ⟨fun _ _ => by kernel_rfl, fun r w1 hr hb hW => ?_⟩
  have c := (hB.below hb).d39 h.len
  have H3 := Lib.hid (h.below hb).s8
  clear h hb hB
  go_enter Try.func93, Try.ntmps93
  go_wp2_with (go_at_call 31; refine (wvec_c r _ _ _ _ s.modes 1 1 4 _ hW H3.out.1 (H3.out.2.1.mono (fun k _ hk => by omega)) H3.out.2.2.1 (by decide) nil_le).mono ?_; rintro e w2 ⟨rfl, hX, ho⟩)
  go_end0
  exact ⟨rfl, hX, ho⟩
end Go.Proofs.Ytegmimnhkohaoaa
/-
  What the closures of hello.PutClient put that hold others: shares and tickets. Conditions: those of Fit.
-/
namespace Go.Proofs.Ytegmimnhkohaoaa
open Go.RowKit Go.Kx
set_option linter.unusedVariables false
set_option linter.unusedSimpArgs false
set_option maxRecDepth 100000
theorem wN_le (x y : WS) : (wN x y 2).1.length ≤ x.1.length + 65537 := by
  unfold wN
  have h := wV_len (wM x (!y.2)) y.1 2 0 65535 (by decide)
  have h2 : (wM x (!y.2)).1.length = x.1.length := rfl
  omega
attribute [local irreducible] wV wU wS wL wN wSh wId wB
set_option maxHeartbeats 8000000 in
theorem pc41_c (s : Cl) (z : Z10) (M q : Nat) (w : World) (h : IsCl w (· < M) s z) (hM : M ≤ w.heap.size) (hB : Blk w q 56 (clV s z)) (hf : Fit s) : Puts w 91 (rp q) (wSh ([], false) s.shs) := by
  refine ⟨fun _ _ => by kernel_rfl, fun r w1 hr hb hW => ?_⟩
  have c := (hB.below hb).d37 h.len
  have hsn : s.shs.length ≤ 1099511627776 := by have := hf.f5; omega
  have hs5 := (h.below hb).s6
  have hlen : s.shs.length = z.n6 := hs5.1
  have H0 := Lib.hid (And.intro hW (And.intro hs5.2.1 (And.intro hlen hf.f5)))
  have hrl := hW.lt
  have hnz : z.n6 ≤ 1099511627776 := by omega
  clear h hf hB hb hW hs5
  generalize z.p6 = p5 at *
  generalize z.c6 = c5 at *
  generalize z.n6 = n5 at *
  subst hlen
  go_enter Try.func91, Try.ntmps91
  go_upto_region 1 with (fail)
  go_loopw [8] (fun v8 wr => ∃ i : Nat, i ≤ s.shs.length ∧ v8 = .int .i64 (i : Int) ∧ Wr wr r (wSh ([], false) (s.shs.take i)) ∧ Only (· = r) w1 wr) (fun v8 _ => s.shs.length - (intOf v8).toNat)
  case atStart => exact ⟨0, Nat.zero_le _, rfl, by unfold wSh; exact H0.out.1, Only.refl _ _⟩
  case round =>
    obtain ⟨i, hi, rfl, hW', hO'⟩ := hrel
    have HW := Lib.hid (And.intro hW' hO')
    have hzr := hO'.size
    clear hW' hO'
    by_cases hlt : i < s.shs.length
    · obtain ⟨g, o, a, m, k, rfl, hS, hc, hd, hl, hrd, hnl⟩ := (H0.out.2.1.only HW.out.2 (by intro k hk e; omega)) i hlt
      have hts : s.shs.take (i + 1) = s.shs.take i ++ [s.shs[i]] := List.take_succ_eq_append_getElem hlt
      have hln := wSh_len (s.shs.take i) ([], false)
      have hlt2 : (s.shs.take i).length + 1 ≤ s.shs.length := by rw [List.length_take]; omega
      have hf5 := H0.out.2.2.2
      obtain ⟨v, hv⟩ : ∃ v, v = s.shs[i] := ⟨_, rfl⟩
      rw [← hv] at hts hl hrd hc
      obtain ⟨gr, ke⟩ := v
      simp only at hl hrd hc
      have HT := Lib.hid (And.intro hts (And.intro hl (And.intro (hrd.mono (T := (· < r)) (fun k hk h => by omega)) hnl)))
      have hbx := Box2.new wr 31 (.int .i64 gr) (.slice a m k)
      have hBz : Below wr.heap.size wr (wr.alloc (.cells #[.int .i64 gr, .slice a m k] 31)) := (Below.refl _ _).alloc (Nat.le_refl _) _
      have d0 := hbx.c0
      have d1 := hbx.c1
      have HX := Lib.hid hBz
      have hgr := World.block_lt_of_cell? wr _ hc
      have hxl : (wSh ([], false) (s.shs.take i)).1.length + 65541 ≤ 70368744177664 := by
        have e : (([], false) : WS).1.length = 0 := rfl
        rw [e] at hln
        omega
      clear hts hv hl hrd hnl hbx hBz hln hf5
      have HLT := Lib.hid hlt
      go_wp2_with (first
        | (go_at_call 72; refine (wshare_c r _ gr _ _ _ ke _ (HW.out.1.below HX.out) (by omega) HT.out.2.1 (HT.out.2.2.1.below HX.out) HT.out.2.2.2).mono ?_; rintro e w5 ⟨rfl, hX, ho⟩; have H5 := Lib.hid (And.intro hX ho); clear hX ho))
      refine ⟨⟨i + 1, by have := HLT.out; omega, by go_num, by rw [HT.out.1, wSh_snoc]; exact H5.out.1, HW.out.2.then ((Only.of_below HX.out).then H5.out.2)⟩, by have := HLT.out; simp [intOf]; omega⟩
    · obtain rfl : i = s.shs.length := by omega
      have htl : s.shs.take s.shs.length = s.shs := List.take_length
      have HTL := Lib.hid htl
      clear htl
      go_wp2
      go_end0
      have h := HW.out.1
      rw [HTL.out] at h
      exact ⟨rfl, h, HW.out.2⟩
set_option maxHeartbeats 8000000 in
theorem pc4_c (s : Cl) (z : Z10) (M q : Nat) (w : World) (h : IsCl w (· < M) s z) (hM : M ≤ w.heap.size) (hB : Blk w q 56 (clV s z)) (hf : Fit s) : Puts w 90 (rp q) (yC4 s) := by
  refine ⟨fun _ _ => by kernel_rfl, fun r w1 hr hb hW => ?_⟩
  have c := (hB.below hb).d37 h.len
  have hq := hB.lt
  have hrl := hW.lt
  have hlen : s.shs.length = z.n6 := h.s6.1
  have hbb : decide ((z.n6 : Int) ≤ 4) = decide (z.n6 ≤ 4) := by rw [Bool.eq_iff_iff]; simp; omega
  obtain ⟨b, hb4⟩ : ∃ b, b = decide (z.n6 ≤ 4) := ⟨_, rfl⟩
  have hy : yC4 s = wN (wM ([], false) b) (wSh ([], false) s.shs) 2 := by rw [hb4, ← hlen]; rfl
  have HI := Lib.hid (And.intro (h.below hb) (And.intro (hB.below hb) (And.intro hf (And.intro hy hW))))
  rw [← hb4] at hbb
  have hb5 := hb4.symm
  have hM1 : M ≤ w1.heap.size := Nat.le_trans hM hb.size
  clear h hB hf hb hW hlen hy hb4
  go_enter Try.func90, Try.ntmps90
  go_wp2_with (first
    | (go_at_call 27; refine (wr_must r b _ _ HI.out.2.2.2.2).mono ?_; rintro e w2 ⟨rfl, hX, ho⟩; have H2 := Lib.hid (And.intro hX (And.intro ho (And.intro (HI.out.1.only ho (by intro k hk e; omega)) (HI.out.2.1.only ho (by omega))))); have hz2 := ho.size; clear hX ho)
    | (go_at_call 32; refine (wnested_c r _ _ 2 _ _ _ H2.out.1 (by decide) nil_le (pc41_c s z M q _ H2.out.2.2.1 (by omega) H2.out.2.2.2 HI.out.2.2.1)).mono ?_; rintro e w3 ⟨rfl, hX, ho⟩; have H3 := Lib.hid (And.intro hX ho); clear hX ho))
  go_end0
  rw [HI.out.2.2.2.1]
  exact ⟨rfl, H3.out.1, H2.out.2.1.then H3.out.2⟩
theorem pc71_c (s : Cl) (z : Z10) (M q : Nat) (w : World) (h : IsCl w (· < M) s z) (hM : M ≤ w.heap.size) (hB : Blk w q 56 (clV s z)) (hf : Fit s) : Puts w 95 (rp q) (wId (wM ([], false) (decide (s.ids.length ≤ 4))) s.ids) := by
  refine ⟨fun _ _ => by kernel_rfl, fun r w1 hr hb hW => ?_⟩
  have c := (hB.below hb).d40 h.len
  have hlen : s.ids.length = z.n9 := h.s9.1
  have hf6 := hf.f6
  rw [hlen] at hf6
  have e0 : (([], false) : WS).1.length = 0 := rfl
  have H0 := Lib.hid (And.intro hW (And.intro ((h.below hb).s9.2.1.mono (T := (· ≠ r)) (fun k _ hk => by omega)) (And.intro hlen (And.intro hf6 e0))))
  rw [hlen]
  clear h hf hB hb hW hlen hf6 e0
  go_enter Try.func95, Try.ntmps95
  go_wp2_with (go_at_call 96; refine (wids_c r ([], false) _ z.n9 _ s.ids _ H0.out.1 H0.out.2.1 H0.out.2.2.1 (by have h1 := H0.out.2.2.2.1; have h2 := H0.out.2.2.2.2; rw [h2]; omega)).mono ?_; rintro e w2 ⟨rfl, hX, ho⟩; have H2 := Lib.hid (And.intro hX ho); clear hX ho)
  go_end0
  exact ⟨rfl, H2.out.1, H2.out.2⟩
theorem pc72_c (s : Cl) (z : Z10) (M q : Nat) (w : World) (h : IsCl w (· < M) s z) (hM : M ≤ w.heap.size) (hB : Blk w q 56 (clV s z)) (hf : Fit s) : Puts w 97 (rp q) (wB ([], false) s.bnd) := by
  refine ⟨fun _ _ => by kernel_rfl, fun r w1 hr hb hW => ?_⟩
  have c := (hB.below hb).d41 h.len
  have hlen : s.bnd.length = z.n10 := h.s10.1
  have hf7 := hf.f7
  rw [hlen] at hf7
  have e0 : (([], false) : WS).1.length = 0 := rfl
  have H0 := Lib.hid (And.intro hW (And.intro ((h.below hb).s10.2.1.mono (T := (· ≠ r)) (fun k _ hk => by omega)) (And.intro hlen (And.intro hf7 e0))))
  clear h hf hB hb hW hlen hf7 e0
  go_enter Try.func97, Try.ntmps97
  go_wp2_with (go_at_call 98; refine (wbinders_c r ([], false) _ z.n10 _ s.bnd _ H0.out.1 H0.out.2.1 H0.out.2.2.1 (by have h1 := H0.out.2.2.2.1; omega) (by have h1 := H0.out.2.2.2.1; have h2 := H0.out.2.2.2.2; rw [h2]; omega)).mono ?_; rintro e w2 ⟨rfl, hX, ho⟩; have H2 := Lib.hid (And.intro hX ho); clear hX ho)
  go_end0
  exact ⟨rfl, H2.out.1, H2.out.2⟩
theorem pc7_c (s : Cl) (z : Z10) (M q : Nat) (w : World) (h : IsCl w (· < M) s z) (hM : M ≤ w.heap.size) (hB : Blk w q 56 (clV s z)) (hf : Fit s) : Puts w 94 (rp q) (yC7 s) := by
  refine ⟨fun _ _ => by kernel_rfl, fun r w1 hr hb hW => ?_⟩
  have hq := hB.lt
  have hrl := hW.lt
  have hM1 : M ≤ w1.heap.size := Nat.le_trans hM hb.size
  have hy : yC7 s = wN (wN ([], false) (wId (wM ([], false) (decide (s.ids.length ≤ 4))) s.ids) 2) (wB ([], false) s.bnd) 2 := rfl
  have hl := wN_le ([], false) (wId (wM ([], false) (decide (s.ids.length ≤ 4))) s.ids)
  have e0 : (([], false) : WS).1.length = 0 := rfl
  rw [e0] at hl
  have HI := Lib.hid (And.intro (h.below hb) (And.intro (hB.below hb) (And.intro hf (And.intro hy (And.intro hW hl)))))
  clear h hB hf hb hW hy hl e0
  go_enter Try.func94, Try.ntmps94
  go_wp2_with (first
    | (go_at_call 32; have hq2 := H2; refine (wnested_c r _ _ 2 _ _ _ H2.out.1 (by decide) (by have := HI.out.2.2.2.2.2; omega) (pc72_c s z M q _ H2.out.2.2.1 (by omega) H2.out.2.2.2 HI.out.2.2.1)).mono ?_; rintro e w3 ⟨rfl, hX, ho⟩; have H3 := Lib.hid (And.intro hX ho); clear hX ho)
    | (go_at_call 32; refine (wnested_c r _ _ 2 _ _ _ HI.out.2.2.2.2.1 (by decide) nil_le (pc71_c s z M q _ HI.out.1 hM1 HI.out.2.1 HI.out.2.2.1)).mono ?_; rintro e w2 ⟨rfl, hX, ho⟩; have H2 := Lib.hid (And.intro hX (And.intro ho (And.intro (HI.out.1.only ho (by intro k hk e; omega)) (HI.out.2.1.only ho (by omega))))); have hz2 := ho.size; clear hX ho))
  go_end0
  rw [HI.out.2.2.2.1]
  exact ⟨rfl, H3.out.1, H2.out.2.1.then H3.out.2⟩
end Go.Proofs.Ytegmimnhkohaoaa
/-
  The contract of hello.PutClient. Conditions: those of Fit.
-/
namespace Go.Proofs.Ytegmimnhkohaoaa
open Go.RowKit Go.Kx
set_option linter.unusedVariables false
set_option linter.unusedSimpArgs false
set_option maxRecDepth 100000

def xC1 (x : WS) (s : Cl) : WS := wP x 43 (decide (0 < s.vers.length)) (yC1 s)
def xC2 (x : WS) (s : Cl) : WS := wP (xC1 x s) 10 (decide (0 < s.grps.length)) (yC2 s)
def xC3 (x : WS) (s : Cl) : WS := wP (xC2 x s) 13 (decide (0 < s.schs.length)) (yC3 s)
def xC4 (x : WS) (s : Cl) : WS := wP (xC3 x s) 51 (decide (0 < s.shs.length)) (yC4 s)
def xC5 (x : WS) (s : Cl) : WS := wP (xC4 x s) 44 (decide (0 < s.cook.length)) (yC5 s)
def xC6 (x : WS) (s : Cl) : WS := wP (xC5 x s) 45 (decide (0 < s.modes.length)) (yC6 s)
def xC7 (x : WS) (s : Cl) : WS := wP (xC6 x s) 41 (decide (0 < s.ids.length)) (yC7 s)
attribute [local irreducible] wP wN wV wU wL yC1 yC2 yC3 yC4 yC5 yC6 yC7
set_option maxHeartbeats 8000000 in
theorem parts_c (r : Nat) (x : WS) (s : Cl) (z : Z10) (M : Nat) (w : World) (hr : Wr w r x) (hl : x.1.length + 600000 ≤ 70368744177664) (h : IsCl w (· < M) s z) (hMr : M ≤ r) (hf : Fit s) : Calls Try.prog 53 #[rp r, .agg (clV s z)] w (WrR w r (xC7 x s)) := by
  have hlt := hr.lt
  have hB := Blk.new w 56 (clV s z)
  have hb0 : Below w.heap.size w (w.alloc (.cells (clV s z) 56)) := (Below.refl _ _).alloc (Nat.le_refl _) _
  have hlen := h.len
  have h1 : (xC1 x s).1.length ≤ x.1.length + 65541 := wP_len _ _ _ _
  have e1 : decide (0 < s.vers.length) = decide (0 < z.n3) := by rw [h.s3.1]
  have h2 : (xC2 x s).1.length ≤ (xC1 x s).1.length + 65541 := wP_len _ _ _ _
  have e2 : decide (0 < s.grps.length) = decide (0 < z.n4) := by rw [h.s4.1]
  have h3 : (xC3 x s).1.length ≤ (xC2 x s).1.length + 65541 := wP_len _ _ _ _
  have e3 : decide (0 < s.schs.length) = decide (0 < z.n5) := by rw [h.s5.1]
  have h4 : (xC4 x s).1.length ≤ (xC3 x s).1.length + 65541 := wP_len _ _ _ _
  have e4 : decide (0 < s.shs.length) = decide (0 < z.n6) := by rw [h.s6.1]
  have h5 : (xC5 x s).1.length ≤ (xC4 x s).1.length + 65541 := wP_len _ _ _ _
  have e5 : decide (0 < s.cook.length) = decide (0 < z.n7) := by rw [h.s7.1]
  have h6 : (xC6 x s).1.length ≤ (xC5 x s).1.length + 65541 := wP_len _ _ _ _
  have e6 : decide (0 < s.modes.length) = decide (0 < z.n8) := by rw [h.s8.1]
  have h7 : (xC7 x s).1.length ≤ (xC6 x s).1.length + 65541 := wP_len _ _ _ _
  have e7 : decide (0 < s.ids.length) = decide (0 < z.n9) := by rw [h.s9.1]
  obtain ⟨x1, hx1⟩ : ∃ y, y = xC1 x s := ⟨_, rfl⟩
  have hp1 : x1 = wP x 43 (decide (0 < z.n3)) (yC1 s) := by rw [hx1]; unfold xC1; rw [e1]
  obtain ⟨x2, hx2⟩ : ∃ y, y = xC2 x s := ⟨_, rfl⟩
  have hp2 : x2 = wP x1 10 (decide (0 < z.n4)) (yC2 s) := by rw [hx2, hx1]; unfold xC2; rw [e2]
  obtain ⟨x3, hx3⟩ : ∃ y, y = xC3 x s := ⟨_, rfl⟩
  have hp3 : x3 = wP x2 13 (decide (0 < z.n5)) (yC3 s) := by rw [hx3, hx2]; unfold xC3; rw [e3]
  obtain ⟨x4, hx4⟩ : ∃ y, y = xC4 x s := ⟨_, rfl⟩
  have hp4 : x4 = wP x3 51 (decide (0 < z.n6)) (yC4 s) := by rw [hx4, hx3]; unfold xC4; rw [e4]
  obtain ⟨x5, hx5⟩ : ∃ y, y = xC5 x s := ⟨_, rfl⟩
  have hp5 : x5 = wP x4 44 (decide (0 < z.n7)) (yC5 s) := by rw [hx5, hx4]; unfold xC5; rw [e5]
  obtain ⟨x6, hx6⟩ : ∃ y, y = xC6 x s := ⟨_, rfl⟩
  have hp6 : x6 = wP x5 45 (decide (0 < z.n8)) (yC6 s) := by rw [hx6, hx5]; unfold xC6; rw [e6]
  obtain ⟨x7, hx7⟩ : ∃ y, y = xC7 x s := ⟨_, rfl⟩
  have hp7 : x7 = wP x6 41 (decide (0 < z.n9)) (yC7 s) := by rw [hx7, hx6]; unfold xC7; rw [e7]
  rw [← hx1] at h1 h2
  rw [← hx2] at h2 h3
  rw [← hx3] at h3 h4
  rw [← hx4] at h4 h5
  rw [← hx5] at h5 h6
  rw [← hx6] at h6 h7
  rw [← hx7] at h7 ⊢
  have HX := Lib.hid (And.intro hp1 (And.intro hp2 (And.intro hp3 (And.intro hp4 (And.intro hp5 (And.intro hp6 hp7))))))
  clear hp1 hx1 e1 hp2 hx2 e2 hp3 hx3 e3 hp4 hx4 e4 hp5 hx5 e5 hp6 hx6 e6 hp7 hx7 e7
  have HB := Lib.hid (And.intro hB (And.intro (h.below hb0) (And.intro hb0 (hr.below hb0))))
  have hsz : (w.alloc (.cells (clV s z) 56)).heap.size = w.heap.size + 1 := World.size_alloc _ _
  clear hB hb0 h hr
  go_enter Try.func53, Try.ntmps53
  go_upto_region 1 with (fail)
  generalize w.alloc (.cells (clV s z) 56) = w0 at *
  have hst : ∀ (wa wb : World) (x' : WS), Blk wa w.heap.size 56 (clV s z) ∧ IsCl wa (· < M) s z ∧ w.heap.size < wa.heap.size → Wr wb r x' → Only (· = r) wa wb → Blk wb w.heap.size 56 (clV s z) ∧ IsCl wb (· < M) s z ∧ w.heap.size < wb.heap.size := by
    rintro wa wb x' ⟨h1, h2, h3⟩ h4 h5
    have := h5.size
    exact ⟨h1.only h5 (by omega), h2.only h5 (by intro k hk e; omega), by omega⟩
  have HST := Lib.hid hst
  have I0 := Lib.hid (show Wr w0 r x ∧ Only (· = r) w w0 ∧ (Blk w0 w.heap.size 56 (clV s z) ∧ IsCl w0 (· < M) s z ∧ w.heap.size < w0.heap.size) from ⟨HB.out.2.2.2, Only.of_below HB.out.2.2.1, HB.out.1, HB.out.2.1, by omega⟩)
  clear hst HB
  have c34 := I0.out.2.2.1.d34 hlen
  go_wp2_with fail
  refine (wpart_c r x (yC1 s) 43 _ _ _ _ I0.out.1 (by omega) (fun _ => pc1_c s z M w.heap.size _ I0.out.2.2.2.1 (by have := I0.out.2.2.2.2; omega) I0.out.2.2.1 hf)).mono ?_
  rintro e w1 ⟨rfl, hX, ho⟩
  rw [← HX.out.1] at hX
  have I1 := Lib.hid (And.intro hX (And.intro (I0.out.2.1.then ho) (HST.out _ w1 x1 I0.out.2.2 hX ho)))
  clear hX ho c34
  have c35 := I1.out.2.2.1.d35 hlen
  go_wp2_with fail
  refine (wpart_c r x1 (yC2 s) 10 _ _ _ _ I1.out.1 (by omega) (fun _ => pc2_c s z M w.heap.size _ I1.out.2.2.2.1 (by have := I1.out.2.2.2.2; omega) I1.out.2.2.1 hf)).mono ?_
  rintro e w2 ⟨rfl, hX, ho⟩
  rw [← HX.out.2.1] at hX
  have I2 := Lib.hid (And.intro hX (And.intro (I1.out.2.1.then ho) (HST.out _ w2 x2 I1.out.2.2 hX ho)))
  clear hX ho c35
  have c36 := I2.out.2.2.1.d36 hlen
  go_wp2_with fail
  refine (wpart_c r x2 (yC3 s) 13 _ _ _ _ I2.out.1 (by omega) (fun _ => pc3_c s z M w.heap.size _ I2.out.2.2.2.1 (by have := I2.out.2.2.2.2; omega) I2.out.2.2.1 hf)).mono ?_
  rintro e w3 ⟨rfl, hX, ho⟩
  rw [← HX.out.2.2.1] at hX
  have I3 := Lib.hid (And.intro hX (And.intro (I2.out.2.1.then ho) (HST.out _ w3 x3 I2.out.2.2 hX ho)))
  clear hX ho c36
  have c37 := I3.out.2.2.1.d37 hlen
  go_wp2_with fail
  refine (wpart_c r x3 (yC4 s) 51 _ _ _ _ I3.out.1 (by omega) (fun _ => pc4_c s z M w.heap.size _ I3.out.2.2.2.1 (by have := I3.out.2.2.2.2; omega) I3.out.2.2.1 hf)).mono ?_
  rintro e w4 ⟨rfl, hX, ho⟩
  rw [← HX.out.2.2.2.1] at hX
  have I4 := Lib.hid (And.intro hX (And.intro (I3.out.2.1.then ho) (HST.out _ w4 x4 I3.out.2.2 hX ho)))
  clear hX ho c37
  have c38 := I4.out.2.2.1.d38 hlen
  go_wp2_with fail
  refine (wpart_c r x4 (yC5 s) 44 _ _ _ _ I4.out.1 (by omega) (fun _ => pc5_c s z M w.heap.size _ I4.out.2.2.2.1 (by have := I4.out.2.2.2.2; omega) I4.out.2.2.1)).mono ?_
  rintro e w5 ⟨rfl, hX, ho⟩
  rw [← HX.out.2.2.2.2.1] at hX
  have I5 := Lib.hid (And.intro hX (And.intro (I4.out.2.1.then ho) (HST.out _ w5 x5 I4.out.2.2 hX ho)))
  clear hX ho c38
  have c39 := I5.out.2.2.1.d39 hlen
  go_wp2_with fail
  refine (wpart_c r x5 (yC6 s) 45 _ _ _ _ I5.out.1 (by omega) (fun _ => pc6_c s z M w.heap.size _ I5.out.2.2.2.1 (by have := I5.out.2.2.2.2; omega) I5.out.2.2.1)).mono ?_
  rintro e w6 ⟨rfl, hX, ho⟩
  rw [← HX.out.2.2.2.2.2.1] at hX
  have I6 := Lib.hid (And.intro hX (And.intro (I5.out.2.1.then ho) (HST.out _ w6 x6 I5.out.2.2 hX ho)))
  clear hX ho c39
  have c40 := I6.out.2.2.1.d40 hlen
  go_wp2_with fail
  refine (wpart_c r x6 (yC7 s) 41 _ _ _ _ I6.out.1 (by omega) (fun _ => pc7_c s z M w.heap.size _ I6.out.2.2.2.1 (by have := I6.out.2.2.2.2; omega) I6.out.2.2.1 hf)).mono ?_
  rintro e w7 ⟨rfl, hX, ho⟩
  rw [← HX.out.2.2.2.2.2.2] at hX
  have I7 := Lib.hid (And.intro hX (And.intro (I6.out.2.1.then ho) (HST.out _ w7 x7 I6.out.2.2 hX ho)))
  clear hX ho c40
  go_wp2
  go_end0
  exact ⟨rfl, I7.out.1, I7.out.2.1⟩

theorem wPc_le (x y : WS) (k : Int) (b : Bool) : (wP x k b y).1.length ≤ x.1.length + 65541 := wP_len _ _ _ _
theorem wL_le (x : WS) (l : List Int) (m : Int) : (wL x l 2 m).1.length ≤ x.1.length + 65537 := by
  unfold wL
  exact wV_len _ _ _ _ _ (by decide)
def putC (s : Cl) : WS := wN (wV (wL (wV ((wU (wM ([], false) (decide (s.ids.length = s.bnd.length))) 771 2).1 ++ s.R, (wU (wM ([], false) (decide (s.ids.length = s.bnd.length))) 771 2).2) s.ses 1 0 32) s.suites 2 8) [0] 1 1 1) (xC7 ([], false) s) 2
theorem nil_lt6 : (([], false) : WS).1.length + 600000 ≤ 70368744177664 := by rw [List.length_nil]; omega
set_option maxHeartbeats 8000000 in
theorem pc0_c (s : Cl) (z : Z10) (M q : Nat) (w : World) (h : IsCl w (· < M) s z) (hM : M ≤ w.heap.size) (hB : Blk w q 56 (clV s z)) (hf : Fit s) : Puts w 52 (rp q) (xC7 ([], false) s) := by
  refine ⟨fun _ _ => by kernel_rfl, fun r w1 hr hb hW => ?_⟩
  have HB := Lib.hid (And.intro (hB.below hb) (And.intro (h.below hb) hf))
  have hsz := clV_size s z h.len
  clear h hb hB hf
  go_enter Try.func52, Try.ntmps52
  go_wp2_with (first
    | (refine wpList_load_mid rfl 56 (.tmp 1) rfl q 0 rfl (clV s z).toList _ HB.out.1.range Try.underlying56 rfl (by rw [Array.length_toList, hsz]; exact Try.infoCl) ?_; rw [Array.toArray_toList])
    | (go_at_call 53; refine (parts_c r _ s z M _ hW nil_lt6 HB.out.2.1 (by omega) HB.out.2.2).mono ?_; rintro e w2 ⟨rfl, hX, ho⟩))
  go_end0
  exact ⟨rfl, hX, ho⟩
end Go.Proofs.Ytegmimnhkohaoaa
/-
  The contract of hello.PutClient. Conditions: those of Fit.
-/
namespace Go.Proofs.Ytegmimnhkohaoaa
open Go.RowKit Go.Kx
set_option linter.unusedVariables false
set_option linter.unusedSimpArgs false
set_option maxRecDepth 100000
attribute [local irreducible] wP wN wV wU wL xC7

/-- The Client's block, its slices, the writer. -/
structure PJ (w : World) (M : Nat) (s : Cl) (z : Z10) (r : Nat) (x : WS) (wx : World) : Prop where
  b : Blk wx w.heap.size 56 (clV s z)
  i : IsCl wx (· < M) s z
  wr : WB w wx r x
  lt : w.heap.size < r
theorem PJ.step {w wx wy : World} {M r : Nat} {s : Cl} {z : Z10} {x y : WS} (h : PJ w M s z r x wx) (hM : M ≤ w.heap.size) (h1 : Wr wy r y) (h2 : Only (· = r) wx wy) : PJ w M s z r y wy :=
  ⟨h.b.only h2 (by have := h.lt; omega), h.i.only h2 (by intro k hk e; have := h.lt; omega), h.wr.step h1 h2, h.lt⟩

theorem PJ.below {w wx wy : World} {M r : Nat} {s : Cl} {z : Z10} {x : WS} (h : PJ w M s z r x wx) (hb : Below wx.heap.size wx wy) : PJ w M s z r x wy :=
  ⟨h.b.below hb, h.i.below hb, ⟨h.wr.1.below hb, h.wr.2.1.trans (hb.mono h.wr.2.1.size), h.wr.2.2⟩, h.lt⟩
set_option maxHeartbeats 8000000 in
theorem putClient_c (s : Cl) (z : Z10) (M : Nat) (w : World) (h : IsCl w (· < M) s z) (hM : M ≤ w.heap.size) (hf : Fit s) : Calls Try.prog 16 #[.agg (clV s z)] w (PutR w (putC s)) := by
  have hB := Blk.new w 56 (clV s z)
  have hb0 : Below w.heap.size w (w.alloc (.cells (clV s z) 56)) := (Below.refl _ _).alloc (Nat.le_refl _) _
  have hz0 := World.size_alloc w (.cells (clV s z) 56)
  have hnew := Wr.new (w.alloc (.cells (clV s z) 56))
  have hb1 : Below (w.heap.size + 1) (w.alloc (.cells (clV s z) 56)) ((w.alloc (.cells (clV s z) 56)).alloc (.cells #[.slice none 0 0, .bool false] 80)) := (Below.refl _ _).alloc (by rw [hz0]; exact Nat.le_refl _) _
  rw [hz0] at hnew
  rw [← hz0] at hb1
  have hI : PJ w M s z (w.heap.size + 1) ([], false) ((w.alloc (.cells (clV s z) 56)).alloc (.cells #[.slice none 0 0, .bool false] 80)) :=
    ⟨hB.below hb1, (h.below hb0).below hb1, ⟨hnew, hb0.trans (hb1.mono hb0.size), by omega⟩, by omega⟩
  have hlen := h.len
  have l9 := h.s9.1
  have l10 := h.s10.1
  obtain ⟨b, hb⟩ : ∃ b, b = decide (z.n9 = z.n10) := ⟨_, rfl⟩
  have hbb : ((z.n9 : Int) == (z.n10 : Int)) = b := by rw [hb, Bool.eq_iff_iff]; simp; omega
  have hput : putC s = wN (wV (wL (wV ((wU (wM ([], false) b) 771 2).1 ++ s.R, (wU (wM ([], false) b) 771 2).2) s.ses 1 0 32) s.suites 2 8) [0] 1 1 1) (xC7 ([], false) s) 2 := by
    rw [hb, ← l9, ← l10]; rfl
  have HPUT := Lib.hid hput
  have HF := Lib.hid hf
  clear hB hb0 hnew hb1 h hb hput hf l9 l10
  go_enter Try.func16, Try.ntmps16
  go_upto_region 2 with (fail)
  generalize (w.alloc (.cells (clV s z) 56)).alloc (.cells #[.slice none 0 0, .bool false] 80) = w1 at *
  have c40 := hI.b.d40 hlen
  have c41 := hI.b.d41 hlen
  have H1 := Lib.hid hI
  have hM1 := hI.wr.2.1.size
  have hl2 := wU_len (wM ([], false) b) 771 2 (by decide)
  have e0 : (wM ([], false) b).1.length = 0 := rfl
  rw [e0] at hl2
  have HL2 := Lib.hid e0
  clear hI e0
  go_upto_region 4 with (first
    | (go_at_call 27; refine (wr_must _ b ([], false) _ H1.out.wr.1).mono ?_; rintro e w3 ⟨rfl, hX, ho⟩; have H3 := Lib.hid (H1.out.step hM hX ho); clear hX ho)
    | (go_at_call 30; refine (wuint_c _ (wM ([], false) b) 771 2 _ H3.out.wr.1 (by rw [HL2.out]; omega)).mono ?_; rintro e w4 ⟨rfl, hX, ho⟩; have H4 := Lib.hid (H3.out.step hM hX ho); clear hX ho))
  clear H1 H3 c40 c41 hbb
  obtain ⟨x2, hx2⟩ : ∃ y, y = wU (wM ([], false) b) 771 2 := ⟨_, rfl⟩
  rw [← hx2] at H4 hl2 HPUT
  clear hx2
  obtain ⟨g, p, n, c, hbx, hn, hrg, hO⟩ := H4.out.wr.1.ex
  have c0 := hbx.c0
  have f0 := hbx.fr 0
  have hs2 := H4.out.b.lt
  have hrl := H4.out.wr.1.lt
  have hn2 : n ≤ 100 := by omega
  have hnews : ∀ j u, (s.R.map B8)[j]? = some u → w4.cell? ((⟨w.heap.size, 0, none⟩ : Addr).add j) = some u := by
    intro j u hu
    have e : (⟨w.heap.size, 0, none⟩ : Addr).add j = ⟨w.heap.size, 0 + j, none⟩ := by unfold Addr.add; split <;> simp_all
    rw [e]
    exact H4.out.b.crnd hlen j u hu
  have HN := Lib.hid hnews
  have HO := Lib.hid (And.intro (hO.row hn) (And.intro hbx hn))
  have hm32 : (s.R.map B8).length = 32 * 1 := by rw [List.length_map, hlen]
  have HM := Lib.hid hm32
  clear hO hbx hn hm32 hnews
  go_region_law ((refine step_append_row rfl _ _ 23 rfl 5 (.int .u8 0) 1 1 Try.underlying23 Try.info5 rfl (by decide) g (.slice p n c) n (x2.1.map B8) (by simp [Act.eval, Act.put]) HO.out.1 ⟨w.heap.size, 0, none⟩ 32 32 (s.R.map B8) (by simp [Act.eval, Act.put]) HM.out HN.out (oneCell_map _) (by simp only [maxLen]; omega) (by omega) w4.heap.size (by simp) ?_; intro g2 v2 w5 hrow hg2 hO5q; have hO5 : Only (· = g) w4 w5 := (by first | exact hO5q | exact ⟨hO5q.os, hO5q.tape, hO5q.output, hO5q.size, hO5q.block⟩); clear hO5q; have hx5 := HO.out.2.1.only hO5 (by omega); have f5 := hx5.fr 0; have c5 := hx5.c0; obtain ⟨p5, k5, rfl, -⟩ := Row.form hrow; have H5 := Lib.hid (And.intro hrow (And.intro hg2 (And.intro hO5 hx5))); clear hrow hg2 hO5 hx5))
  have hO6 : Own (w5.setCell ⟨w.heap.size + 1, 0, none⟩ (.slice p5 (n + 32) k5)) g2 (.slice p5 (n + 32) k5) (x2.1 ++ s.R) := by
    have h5 : Own w5 g2 (.slice p5 (n + 32) k5) (x2.1 ++ s.R) := by
      unfold Own
      rw [List.length_append, List.map_append, HO.out.2.2, hlen]
      exact H5.out.1
    exact h5.only ((Only.refl (fun k => k = w.heap.size + 1) w5).setCell _ _ (.inl rfl)) (by have := H5.out.2.1; omega)
  have hx6 := H5.out.2.2.2.set0 (.slice p5 (n + 32) k5)
  have hW6 : Wr (w5.setCell ⟨w.heap.size + 1, 0, none⟩ (.slice p5 (n + 32) k5)) (w.heap.size + 1) (x2.1 ++ s.R, x2.2) :=
    ⟨g2, p5, n + 32, k5, hx6, by rw [List.length_append, HO.out.2.2, hlen], by have := H5.out.2.1; omega, hO6⟩
  have hO46 : Only (fun k => k = g ∨ k = w.heap.size + 1) w4 (w5.setCell ⟨w.heap.size + 1, 0, none⟩ (.slice p5 (n + 32) k5)) := (H5.out.2.2.1.mono (fun _ _ h => .inl h)).setCell _ _ (.inl (.inr rfl))
  have hJ6 : PJ w M s z (w.heap.size + 1) (x2.1 ++ s.R, x2.2) (w5.setCell ⟨w.heap.size + 1, 0, none⟩ (.slice p5 (n + 32) k5)) :=
    ⟨H4.out.b.only hO46 (by omega), H4.out.i.only hO46 (by intro k hk e; omega), ⟨hW6, below_only H4.out.wr.2.1 H4.out.wr.2.1.size hO46 (by intro k hk e; omega), by omega⟩, by omega⟩
  have hx3l : (x2.1 ++ s.R).length ≤ 200 := by rw [List.length_append, HO.out.2.2, hlen]; omega
  have hput := HPUT.out
  have h4l := wV_len (x2.1 ++ s.R, x2.2) s.ses 1 0 32 (by decide)
  obtain ⟨x4, hx4⟩ : ∃ x4, x4 = wV (x2.1 ++ s.R, x2.2) s.ses 1 0 32 := ⟨_, rfl⟩
  rw [← hx4] at hput h4l
  have h5l := wL_le x4 s.suites 8
  obtain ⟨x5, hx5⟩ : ∃ x5, x5 = wL x4 s.suites 2 8 := ⟨_, rfl⟩
  rw [← hx5] at hput h5l
  have h6l := wV_len x5 [0] 1 1 1 (by decide)
  obtain ⟨x6, hx6'⟩ : ∃ x6, x6 = wV x5 [0] 1 1 1 := ⟨_, rfl⟩
  rw [← hx6'] at hput h6l
  have HX := Lib.hid (And.intro hx4 (And.intro hx5 (And.intro hx6' hput)))
  have h4l' : x4.1.length ≤ 65737 := Nat.le_trans h4l (by show (x2.1 ++ s.R).length + 65537 ≤ _; omega)
  have J6 := Lib.hid hJ6
  have c32 := hJ6.b.d32 hlen
  clear hx4 hx5 hx6' hput h4l hO6 hx6 hW6 hO46 hJ6 c0 f0 c5 f5 HN HM HPUT
  generalize w5.setCell ⟨w.heap.size + 1, 0, none⟩ (.slice p5 (n + 32) k5) = w6 at *
  go_wp2_with (first
    | (go_at_call 31; have hq := J8; refine (wvec_c _ _ _ 1 1 [0] 1 1 1 _ J8.out.2.1.wr.1 rfl (J8.out.1.mono (fun k _ hk => by omega)) (by intro h; cases h) (by decide) (by omega)).mono ?_; rintro e w9 ⟨rfl, hX, ho⟩; rw [← HX.out.2.2.1] at hX; have J9 := Lib.hid (J8.out.2.1.step hM hX ho); clear hX ho)
    | (go_at_call 31; refine (wvec_c _ _ _ _ _ s.ses 1 0 32 _ J6.out.wr.1 J6.out.i.s1.1 (J6.out.i.s1.2.1.mono (fun k _ hk => by omega)) J6.out.i.s1.2.2.1 (by decide) (by show (x2.1 ++ s.R).length ≤ _; omega)).mono ?_; rintro e w7 ⟨rfl, hX, ho⟩; rw [← HX.out.1] at hX; have J7 := Lib.hid (J6.out.step hM hX ho); have c33 := J7.out.b.d33 hlen; clear hX ho)
    | (go_at_call 51; refine (wlist_c _ x4 _ _ _ s.suites 2 8 _ J7.out.wr.1 (J7.out.i.s2.2.1.mono (fun k _ hk => by omega)) J7.out.i.s2.1 (by rw [← J7.out.i.s2.1]; exact HF.out.f1) (by omega) (by decide)).mono ?_; rintro e w8 ⟨rfl, hX, ho⟩; rw [← HX.out.2.1] at hX; have hJ8 := J7.out.step hM hX ho; have hz8 := hJ8.wr.2.1.size; have hr8 := hJ8.wr.1.lt; have hB8 : Below w8.heap.size w8 (w8.alloc (.cells #[.int .u8 0] 5)) := (Below.refl _ _).alloc (Nat.le_refl _) _; have J8 := Lib.hid (And.intro (Own.lit w8 [0] (by simp)).rd (And.intro (hJ8.below hB8) hr8)); clear hX ho hJ8 hB8)
    | (go_at_call 32; refine (wnested_c _ x6 _ 2 _ _ _ J9.out.wr.1 (by decide) (by omega) (pc0_c s z M w.heap.size _ J9.out.i (by have := J9.out.wr.2.1.size; omega) J9.out.b HF.out)).mono ?_; rintro e w10 ⟨rfl, hX, ho⟩; rw [← HX.out.2.2.2] at hX; have J10 := Lib.hid (J9.out.wr.step hX ho); clear hX ho)
    | (go_at_call 35; refine (wend_c _ _ _ J10.out.1).mono ?_; rintro e w11 ⟨rfl, hE⟩; rcases hE with ⟨he, rfl⟩ | ⟨he, g9, p9, n9, c9, rfl, hn9, hg9, hO9⟩))
  · go_ret2
    exact ⟨.inl ⟨he, rfl⟩, J10.out.2.1⟩
  · go_ret2
    exact ⟨.inr ⟨he, g9, p9, n9, c9, rfl, hn9, by omega, hO9⟩, J10.out.2.1⟩
end Go.Proofs.Ytegmimnhkohaoaa
/-
  The plain law beneath HelloLimits: which Clients can't be put. No condition.
-/
namespace Go.Proofs.Ytegmimnhkohaoaa
open Go.RowKit Go.Kx
set_option linter.unusedVariables false
set_option linter.unusedSimpArgs false

/-- The numbers 0, 1, .. ahead of n. -/
def upI (n : Nat) : List Int := (List.range n).map fun (i : Nat) => (i : Int)
theorem upI_len (n : Nat) : (upI n).length = n := by simp [upI]
theorem upI_succ (n : Nat) : upI (n + 1) = upI n ++ [(n : Int)] := by simp [upI, List.range_succ]
def lim0 : Cl := { clZ with suites := [1] }
def mostN (more : Bool) : Nat := if more then 5 else 4
/-- The Client of each limit. -/
def limS (k : Nat) (n : Nat) : Cl :=
  match k with
  | 0 => { lim0 with vers := upI n }
  | 1 => { lim0 with grps := upI n }
  | 2 => { lim0 with schs := upI n }
  | 3 => { lim0 with modes := List.replicate n 0 }
  | 4 => { lim0 with suites := upI n ++ [5, 6, 7, 8] }
  | _ => { lim0 with ids := List.replicate n ([1], 0), bnd := List.replicate n (List.replicate 32 0) }
theorem lim_bad : ∀ (more : Bool) (k : Nat), k < 6 → (putC (limS k (mostN more))).2 = more
  | true, 0, _ => by kernel_rfl
  | true, 1, _ => by kernel_rfl
  | true, 2, _ => by kernel_rfl
  | true, 3, _ => by kernel_rfl
  | true, 4, _ => by kernel_rfl
  | true, 5, _ => by kernel_rfl
  | false, 0, _ => by kernel_rfl
  | false, 1, _ => by kernel_rfl
  | false, 2, _ => by kernel_rfl
  | false, 3, _ => by kernel_rfl
  | false, 4, _ => by kernel_rfl
  | false, 5, _ => by kernel_rfl
  | _, k + 6, h => by omega
theorem lim_fit (k n : Nat) (h : n ≤ 5) : Fit (limS k n) := by
  have hu := upI_len n
  have h0 : ∀ s : Cl, s.suites.length ≤ 100 → s.vers.length ≤ 100 → s.grps.length ≤ 100 → s.schs.length ≤ 100 → s.shs.length ≤ 100 → s.ids.length ≤ 100 → s.bnd.length ≤ 100 → Fit s := by
    intro s h1 h2 h3 h4 h5 h6 h7
    exact ⟨by omega, by omega, by omega, by omega, by omega, by omega, by omega⟩
  refine h0 _ ?_ ?_ ?_ ?_ ?_ ?_ ?_ <;> unfold limS <;> split <;> simp [lim0, clZ, hu] <;> omega
/-- A number, wrapped to its place among m. -/
theorem hopN (n : Int) (m : Nat) (hm : 0 < m) (hb : m ≤ 1000000) : ∃ P : Nat, wrap64 ((IntKind.u64.wrap n).tmod (m : Int)) = (P : Int) ∧ P < m := by
  have h0 : 0 ≤ IntKind.u64.wrap n := by rw [IntKind.wrap_u64]; omega
  rw [Int.tmod_eq_emod_of_nonneg h0]
  generalize IntKind.u64.wrap n = y at h0
  have h1 : 0 ≤ y % (m : Int) ∧ y % (m : Int) < (m : Int) := ⟨Int.emod_nonneg _ (by omega), Int.emod_lt_of_pos _ (by omega)⟩
  generalize y % (m : Int) = x at h1
  rw [IntWalk.wrap64_in x ⟨by omega, by omega⟩]
  exact ⟨x.toNat, by omega, by omega⟩
end Go.Proofs.Ytegmimnhkohaoaa
/-
  The contracts of relaylaw08.bend and of hello.Cut. Conditions: those of each.
-/
namespace Go.Proofs.Ytegmimnhkohaoaa
open Go.RowKit Go.Kx
set_option linter.unusedVariables false
set_option linter.unusedSimpArgs false
set_option maxRecDepth 100000

/-- A slice of bytes of the call's own, of N at most. -/
def BendR (w : World) (N : Nat) (e : Ending) (w' : World) : Prop := ∃ (l : List UInt8) (p : Option Addr) (n c : Nat), e = .returned (.slice p n c) ∧ l.length = n ∧ n ≤ N ∧ n ≤ c ∧ c ≤ maxLen ∧ Rd w' (fun k => w.heap.size ≤ k) p l ∧ (p = none → c = 0) ∧ (∀ x, p = some x → x.spot = none ∧ x.block < w'.heap.size) ∧ Below w.heap.size w w'
theorem OB.form {w : World} {p : Option Addr} {n c : Nat} {l : List UInt8} (h : OB w p n c l) : n ≤ c ∧ c ≤ maxLen ∧ (∀ x, p = some x → x.spot = none ∧ x.block < w.heap.size ∧ x.off = 0 ∧ owB p n c x.block) := by
  obtain ⟨g, ho, h1, h2⟩ := h.at 0
  obtain ⟨p', c', he, hc, hm, hr, hp, ha⟩ := ho.form
  have hl := h.len
  cases he
  refine ⟨hc, hm, fun x hx => ?_⟩
  obtain ⟨e, hlt⟩ := ha x hx
  subst e
  subst hx
  exact ⟨rfl, hlt, rfl, rfl⟩
theorem OB.pos {w : World} {p : Option Addr} {n c : Nat} {l : List UInt8} (h : OB w p n c l) (hn : 0 < n) : ∃ g, p = some ⟨g, 0, none⟩ ∧ owB p n c g ∧ g < w.heap.size := by
  obtain ⟨g, ho, h1, h2⟩ := h.at w.heap.size
  obtain ⟨p', c', he, hc, hm, hr, hp, ha⟩ := ho.form
  have hl := h.len
  cases he
  cases p with
  | none => have := hr.none_nil; subst this; simp at hn
  | some x =>
    obtain ⟨e, hlt⟩ := ha x rfl
    subst e
    exact ⟨g, rfl, rfl, hlt⟩
theorem hopM (n : Int) (m : Nat) (hm : 0 < m) (hb : m ≤ 4611686018427387904) : ∃ P : Nat, wrap64 ((IntKind.u64.wrap n).tmod (m : Int)) = (P : Int) ∧ P < m := by
  have h0 : 0 ≤ IntKind.u64.wrap n := by rw [IntKind.wrap_u64]; omega
  rw [Int.tmod_eq_emod_of_nonneg h0]
  generalize IntKind.u64.wrap n = y at h0
  have h1 : 0 ≤ y % (m : Int) ∧ y % (m : Int) < (m : Int) := ⟨Int.emod_nonneg _ (by omega), Int.emod_lt_of_pos _ (by omega)⟩
  generalize y % (m : Int) = x at h1
  rw [IntWalk.wrap64_in x ⟨by omega, by omega⟩]
  exact ⟨x.toNat, by omega, by omega⟩
theorem rd_take {w : World} {S : Nat → Prop} {p : Option Addr} {l : List UInt8} (h : Rd w S p l) (k : Nat) : Rd w S p (l.take k) := by
  intro i hi
  have hi2 : i < l.length := by rw [List.length_take] at hi; omega
  have := h i hi2
  rw [List.getElem_take]
  exact this
theorem rd_drop {w : World} {S : Nat → Prop} {g o k : Nat} {l : List UInt8} (h : Rd w S (some ⟨g, o, none⟩) l) : Rd w S (some ⟨g, o + k, none⟩) (l.drop k) := by
  intro i hi
  have hi2 : k + i < l.length := by rw [List.length_drop] at hi; omega
  obtain ⟨a, ha, hS, hc⟩ := h (k + i) hi2
  cases ha
  refine ⟨_, rfl, hS, ?_⟩
  rw [List.getElem_drop]
  have e1 : (⟨g, o, none⟩ : Addr).add (k + i) = ⟨g, o + (k + i), none⟩ := by unfold Addr.add; split <;> simp_all
  have e2 : (⟨g, o + k, none⟩ : Addr).add i = ⟨g, o + k + i, none⟩ := by unfold Addr.add; split <;> simp_all
  rw [e1] at hc
  rw [e2, Nat.add_assoc]
  exact hc
theorem rd_set {w : World} {S : Nat → Prop} {g k : Nat} {x : UInt8} {l : List UInt8} (h : Rd w S (some ⟨g, 0, none⟩) l) (hS : S g) (hk : k < l.length) : Rd (w.setCell ⟨g, k, none⟩ (B8 x)) S (some ⟨g, 0, none⟩) (l.set k x) := by
  intro i hi
  rw [List.length_set] at hi
  refine ⟨_, rfl, hS, ?_⟩
  obtain ⟨a, ha, _, hc⟩ := h i hi
  cases ha
  have e1 : (⟨g, 0, none⟩ : Addr).add i = ⟨g, i, none⟩ := by unfold Addr.add; split <;> simp_all
  rw [e1] at hc ⊢
  by_cases e : k = i
  · subst e
    rw [World.cell?_setCell_same _ _ _ hc]
    simp
  · rw [World.cell?_setCell_other _ _ _ _ (by simp [e]), hc]
    simp [e]
set_option maxHeartbeats 8000000 in
theorem bend_c (S : Nat → Prop) (p : Option Addr) (n c : Nat) (b : List UInt8) (l0 l1 : Int) (w : World) (hR : Rd w S p b) (hp : p = none → c = 0) (hn : b.length = n) (hl : n ≤ 35184372088832) :
    Calls Try.prog 25 #[.slice p n c, .agg #[.int .i64 l0, .int .i64 l1]] w (BendR w (2 * n)) := by
  have HR := Lib.hid (And.intro hR (And.intro hp hn))
  have hR0 : ∀ {w' : World}, Below w.heap.size w w' → Rd w' S p b := fun h => hR.below h
  clear hR hp hn
  go_enter Try.func25, Try.ntmps25
  go_upto_region 1 with (fail)
  have hba : Below w.heap.size w (w.alloc (.cells #[.int .i64 l0, .int .i64 l1] 72)) := (Below.refl _ _).alloc (Nat.le_refl _) _
  have hbk : Blk (w.alloc (.cells #[.int .i64 l0, .int .i64 l1] 72)) w.heap.size 72 #[.int .i64 l0, .int .i64 l1] := Blk.new _ _ _
  generalize w.alloc (.cells #[.int .i64 l0, .int .i64 l1] 72) = w0 at *
  have hq := hbk.lt
  have hob : OB (w0.alloc (.cells #[] 5)) (some ⟨w0.heap.size, 0, none⟩) 0 0 [] := (OB.of_own (Own.new w0)).1
  have hbb : Below w0.heap.size w0 (w0.alloc (.cells #[] 5)) := (Below.refl _ _).alloc (Nat.le_refl _) _
  have H0 := Lib.hid (And.intro hba (And.intro hbk (And.intro hob (And.intro hbb (hR0 hba)))))
  clear hba hbk hob hbb
  go_upto_if 11 with (at_builtin; refine wpList_app8 rfl _ _ rfl H0.out.2.2.1 rfl S p n c b rfl HR.out.2.2 (H0.out.2.2.2.2.below H0.out.2.2.2.1) HR.out.2.1 (by have := HR.out.2.2; simp only [List.length_nil]; omega) ?_; rw [List.nil_append]; intro p1 n1 c1 w1 h1 h2 h3; have H1 := Lib.hid (And.intro h1 (And.intro h2 (And.intro (below_only H0.out.2.2.2.1 (by rw [World.size_alloc]; omega) h3 (fun k hk e => by cases e; exact absurd hk (Nat.lt_irrefl _))) h3))); clear h1 h2 h3)
  obtain rfl : n1 = n := by rw [← H1.out.1.len]; exact HR.out.2.2
  have hz1 := H1.out.2.2.1.size
  have hxo : ∀ k, owB p1 n1 c1 k → w.heap.size ≤ k := fun k hk => by
    rcases H1.out.2.1 k hk with h | h
    · have : w0.heap.size = k := Option.some.inj h
      omega
    · rw [World.size_alloc] at h; omega
  have hbw : Below w.heap.size w w1 := H0.out.1.trans (H1.out.2.2.1.mono (Nat.le_of_lt hq))
  have hfo := H1.out.1.form
  have HX := Lib.hid (And.intro hxo (And.intro hbw hfo))
  clear hxo hbw hfo
  by_cases h0 : n1 = 0
  · have hd : ((n1 : Int) == 0) = true := by simp; omega
    go_wp2
    go_ret
    exact ⟨b, p1, n1, c1, rfl, H1.out.1.len, by omega, HX.out.2.2.1, HX.out.2.2.2.1, H1.out.1.rd.mono (fun k _ hk => HX.out.1 k hk), H1.out.1.nilc, fun x hx => ⟨(HX.out.2.2.2.2 x hx).1, (HX.out.2.2.2.2 x hx).2.1⟩, HX.out.2.1⟩
  · have hd : ((n1 : Int) == 0) = false := by simp; omega
    obtain ⟨g, hpg, hog, hgl⟩ := H1.out.1.pos (by omega)
    have hbl := H1.out.1.len
    have c0 : w1.cell? ⟨w.heap.size, 0, none⟩ = some (.int .i64 l0) := (H0.out.2.1.below H1.out.2.2.1).c 0
    have c1' : w1.cell? ⟨w.heap.size, 1, none⟩ = some (.int .i64 l1) := (H0.out.2.1.below H1.out.2.2.1).c 1
    have hgq : w.heap.size ≤ g := HX.out.1 g hog
    have hu : IntKind.u64.wrap (n1 : Int) = (n1 : Int) := by rw [IntKind.wrap_u64]; omega
    have hn0 : ((n1 : Int) == 0) = false := hd
    obtain ⟨k, hk, hkn⟩ := hopM l0 n1 (by omega) (by omega)
    obtain ⟨t, ht, ht4⟩ := hopM l1 4 (by omega) (by omega)
    have ht' : wrap64 ((IntKind.u64.wrap l1).tmod 4) = (t : Int) := ht
    clear ht
    subst hpg
    have HG := Lib.hid (And.intro hog hbl)
    have hi1 : (k : Int) ≤ (n1 : Int) := by omega
    have hi2 : (0 : Int) ≤ (k : Int) := by omega
    have hi3 : (k : Int) < (n1 : Int) := by omega
    have hnc : n1 ≤ c1 := HX.out.2.2.1
    have hcm : c1 ≤ maxLen := HX.out.2.2.2.1
    have hcI : (n1 : Int) ≤ (c1 : Int) := by omega
    have hcI2 : (k : Int) ≤ (c1 : Int) := by omega
    clear hog hbl
    go_upto_block 0 with (fail)
    rw [hk, ht']
    clear hk ht'
    have hcase : t = 0 ∨ t = 1 ∨ t = 2 ∨ t = 3 := by omega
    have hst : ∀ (x : UInt8), BendR w (2 * n1) (.returned (.slice (some ⟨g, 0, none⟩) n1 c1)) (w1.setCell ⟨g, k, none⟩ (B8 x)) := by
      intro x
      have ho : Only (· = g) w1 (w1.setCell ⟨g, k, none⟩ (B8 x)) := (Only.refl (fun j => j = g) w1).setCell _ _ (.inl rfl)
      refine ⟨b.set k x, _, n1, c1, rfl, by rw [List.length_set]; exact HG.out.2, by omega, hnc, hcm, rd_set (H1.out.1.rd.mono (fun k _ hk => HX.out.1 k hk)) hgq (by rw [HG.out.2]; exact hkn), (fun h => by cases h), fun y hy => ?_, below_only HX.out.2.1 HX.out.2.1.size ho (fun j hj e => by omega)⟩
      cases hy
      exact ⟨rfl, Nat.lt_of_lt_of_le hgl ho.size⟩
    have HST := Lib.hid hst
    have hgk : ∃ v, w1.cell? ⟨g, k, none⟩ = some v := by
      obtain ⟨a, ha, _, hc⟩ := H1.out.1.rd k (by rw [HG.out.2]; exact hkn)
      cases ha
      have e : (⟨g, 0, none⟩ : Addr).add k = ⟨g, k, none⟩ := by unfold Addr.add; split <;> simp_all
      rw [e] at hc
      exact ⟨_, hc⟩
    obtain ⟨vk, hvk⟩ := hgk
    have hfz : w1.frozen? ⟨g, k, none⟩ = false := by
      have h := H1.out.1.own
      obtain ⟨_, h2⟩ := h
      rcases h2 with ⟨hv, _⟩ | ⟨g', cap, cur, hv, hb, hg, _⟩
      · cases hv
      · cases hv
        simp [World.frozen?, hg]
    clear hst
    rcases hcase with rfl | rfl | rfl | rfl
    · go_wp2
      go_ret
      exact ⟨b.take k, _, k, c1, rfl, by rw [List.length_take, HG.out.2]; omega, by omega, by omega, hcm, rd_take (H1.out.1.rd.mono (fun k _ hk => HX.out.1 k hk)) k, (fun h => by cases h), fun y hy => (by cases hy; exact ⟨rfl, hgl⟩), HX.out.2.1⟩
    · have hd := rd_drop (k := k) H1.out.1.rd
      have HD := Lib.hid (And.intro hd (show (b.drop k).length = n1 - k by rw [List.length_drop, HG.out.2]))
      clear hd
      go_wp2_with (at_builtin; refine wpList_app8 rfl _ _ rfl H1.out.1 rfl _ (some ⟨g, 0 + k, none⟩) (n1 - k) (c1 - k) (b.drop k) (by simp [Act.eval, Act.put]) HD.out.2 HD.out.1 (fun h => by cases h) (by rw [HD.out.2, HG.out.2]; omega) ?_; intro p2 n2 c2 w2 h1 h2 h3; have H2 := Lib.hid (And.intro h1 (And.intro h2 h3)); clear h1 h2 h3)
      go_ret
      have hf := H2.out.1.form
      have hx2 : ∀ j, owB p2 n2 c2 j → w.heap.size ≤ j := fun j hj => by
        rcases H2.out.2.1 j hj with h | h
        · exact HX.out.1 j h
        · have := HX.out.2.1.size; omega
      have hl2 := H2.out.1.len
      rw [List.length_append, HD.out.2, HG.out.2] at hl2
      exact ⟨_, p2, n2, c2, rfl, H2.out.1.len, by omega, hf.1, hf.2.1, H2.out.1.rd.mono (fun j _ hj => hx2 j hj), H2.out.1.nilc, fun y hy => ⟨(hf.2.2 y hy).1, (hf.2.2 y hy).2.1⟩, below_only HX.out.2.1 HX.out.2.1.size H2.out.2.2 (fun j hj e => by have := HX.out.1 j e; omega)⟩
    · go_wp2
      go_ret
      have h := HST.out (b8 (l1 / 4))
      unfold B8 at h
      rw [b8_nat] at h
      exact h
    · go_wp2
      go_ret
      have h := HST.out (b8 (l1 / 4))
      unfold B8 at h
      rw [b8_nat] at h
      exact h

/-- What Cut tells of a greeting and its error. -/
def CutR (w : World) (y : Cl × Int) (n : Nat) (e : Ending) (w' : World) : Prop :=
  ((y.2 ≠ 0 ∧ e = .returned (.tuple #[.int .i64 0, .int .i64 y.2])) ∨ (y.2 = 0 ∧ y.1.ids.length = 0 ∧ e = .returned (.tuple #[.int .i64 0, .int .i64 13])) ∨ (y.2 = 0 ∧ 0 < y.1.ids.length ∧ e = .returned (.tuple #[.int .i64 ((n : Int) - 2 - (y.1.bnd.length : Int) * 33), .int .i64 0]))) ∧ Below w.heap.size w w'
set_option maxHeartbeats 8000000 in
theorem cut_c (S : Nat → Prop) (p : Option Addr) (n c : Nat) (b : List UInt8) (y : Cl × Int) (w : World) (hy : getC b = y) (hR : Rd w S p b) (hp : p = none → c = 0) (hl : b.length ≤ 70368744177664) (hn : b.length = n) (hf : y.1.ids.length = y.1.bnd.length ∧ y.1.ids.length ≤ 4) :
    Calls Try.prog 26 #[.slice p n c] w (CutR w y n) := by
  have hc := getClient_c S p n c b w hR hp hl hn
  rw [hy] at hc
  have HC := Lib.hid hc
  obtain ⟨x, er⟩ := y
  have hz := run_zeroCl
  have hln : n ≤ 70368744177664 := by omega
  clear hc hy hR hp hl hn
  go_enter Try.func26, Try.ntmps26
  go_upto_region 2 with (first
    | (go_at_call 18; refine HC.out.mono ?_; rintro en w1 ⟨z1, rfl, hi, hb⟩; have I1 := Lib.hid (And.intro hi hb); clear hi hb)
    | (refine st_blk rfl 56 (.tmp 4) (.tmp 9) rfl w1.heap.size (clV x z1) rfl rfl 56 (clV clZ z10) (Blk.new w1 _ _) (by rw [clV_size _ _ I1.out.1.len]; exact Try.infoCl) (by rw [clV_size _ _ rfl, clV_size _ _ I1.out.1.len]) (clV_ones _ _) ?_; intro w2 hb2 ho2; have I2 := Lib.hid (And.intro hb2 ho2); clear hb2 ho2))
  have hbl : Below w.heap.size w w2 := by
    have h1 : Below w1.heap.size w1 (w1.alloc (.cells (clV clZ z10) 56)) := (Below.refl _ _).alloc (Nat.le_refl _) _
    have h2 := below_only h1 (by rw [World.size_alloc]; omega) I2.out.2 (fun k hk e => by omega)
    exact I1.out.2.trans (h2.mono I1.out.2.size)
  have c40 := I2.out.1.d40 I1.out.1.len
  have c41 := I2.out.1.d41 I1.out.1.len
  have l9 := I1.out.1.s9.1
  have l10 := I1.out.1.s10.1
  have HB := Lib.hid (And.intro hbl (And.intro l9 (And.intro l10 hf)))
  rw [l9, l10] at hf
  have h4 := hf.2
  have h5 := hf.1
  clear hbl l9 l10 hf hz
  by_cases he : er = 0
  · subst he
    by_cases h0 : z1.n9 = 0
    · have hd : ((z1.n9 : Int) == 0) = true := by simp; omega
      go_wp2
      go_ret2
      exact ⟨.inr (.inl ⟨rfl, by show x.ids.length = 0; rw [HB.out.2.1]; exact h0, rfl⟩), HB.out.1⟩
    · have hd : ((z1.n9 : Int) == 0) = false := by simp; omega
      have e1 : IntKind.i64.wrap ((n : Int) - 2) = (n : Int) - 2 := IntWalk.i64_in _ (by omega)
      have e2 : IntKind.i64.wrap ((z1.n10 : Int) * 33) = (z1.n10 : Int) * 33 := IntWalk.i64_in _ (by omega)
      have e3 : IntKind.i64.wrap ((n : Int) - 2 - (z1.n10 : Int) * 33) = (n : Int) - 2 - (z1.n10 : Int) * 33 := IntWalk.i64_in _ (by omega)
      go_wp2
      go_ret2
      refine ⟨.inr (.inr ⟨rfl, by show 0 < x.ids.length; rw [HB.out.2.1]; omega, ?_⟩), HB.out.1⟩
      rw [HB.out.2.2.1]
      rfl
  · have hd : (er != 0) = true := by simp; exact he
    go_wp2
    go_ret2
    exact ⟨.inl ⟨he, rfl⟩, HB.out.1⟩
end Go.Proofs.Ytegmimnhkohaoaa
/-
  Plain laws: what relayref08.PutClient puts GetClient reads again, whatever unknown extension stands behind it. No condition.
-/
namespace Go.Proofs.Ytegmimnhkohaoaa
open Go.RowKit Go.Kx
set_option linter.unusedVariables false
set_option linter.unusedSimpArgs false

/-! ### One element after another -/
theorem loop_flat {α : Type} (F : List UInt8 → α × List UInt8 × Int) (enc : α → List UInt8) : ∀ (l : List α), (∀ a ∈ l, enc a ≠ [] ∧ ∀ t, F (enc a ++ t) = (a, t, 0)) → ∀ n, l.length < n → loopL F n (l.flatMap enc) 0 = (l, [], 0)
  | [], _, n, _ => by rw [List.flatMap_nil, loopL_stop F n [] 0 (.inl rfl)]
  | a :: r, h, n, hn => by
    obtain ⟨m, rfl⟩ : ∃ m, n = m + 1 := ⟨n - 1, by simp at hn; omega⟩
    obtain ⟨h1, h2⟩ := h a (by simp)
    have ih := loop_flat F enc r (fun b hb => h b (by simp [hb])) m (by simp at hn; omega)
    rw [List.flatMap_cons, loopL_go F m _ (by intro e; exact h1 (List.append_eq_nil_iff.1 e).1), h2]
    simp only [ih]
theorem flat_ge {α : Type} (enc : α → List UInt8) : ∀ (l : List α), (∀ a ∈ l, enc a ≠ []) → l.length ≤ (l.flatMap enc).length
  | [], _ => by simp
  | a :: r, h => by
    have ih := flat_ge enc r (fun b hb => h b (by simp [hb]))
    have h1 := h a (by simp)
    have h2 : 0 < (enc a).length := List.length_pos_iff.2 h1
    rw [List.flatMap_cons, List.length_append, List.length_cons]
    omega
theorem read_flat {α : Type} (F : List UInt8 → α × List UInt8 × Int) (enc : α → List UInt8) (W : Nat) (hW : W = 1 ∨ W = 2) (l : List α) (h : ∀ a ∈ l, enc a ≠ [] ∧ ∀ t, F (enc a ++ t) = (a, t, 0)) (hl : (l.flatMap enc).length < 256 ^ W) (t : List UInt8) :
    readS F (vecL W (l.flatMap enc) ++ t) 0 (W : Int) = (l, t, 0) := by
  have hv : vecS (vecL W (l.flatMap enc) ++ t) 0 (W : Int) 0 65535 = (l.flatMap enc, t, 0) := by
    rcases hW with rfl | rfl
    · unfold vecL
      rw [List.append_assoc]
      exact vec_read (W := 1) (by omega) hl (by omega) (by simp only [Nat.pow_one] at hl; omega)
    · exact vecS_2 _ _ 0 65535 (by omega) (by simp only [Nat.reducePow] at hl; omega) (by omega)
  unfold readS
  rw [hv]
  have hg := flat_ge enc l (fun a ha => (h a ha).1)
  simp only [loop_flat F enc l h _ (show l.length < (l.flatMap enc).length + 1 by omega)]
  rfl
theorem uF_enc {n : Int} (h : in16 n = true) : u16L n ≠ [] ∧ ∀ t, uF (u16L n ++ t) = (n, t, 0) := ⟨by simp [u16L], fun t => rU_u16 h t⟩
theorem ageL_be {n : Int} (h0 : 0 ≤ n) (h : n < 4294967296) : ageL n = be n.toNat 4 := by
  obtain ⟨N, rfl⟩ : ∃ N : Nat, n = (N : Int) := ⟨n.toNat, by omega⟩
  have e3 : b8 ((N : Int) / 16777216) = UInt8.ofNat (N / 256 ^ 3) := by
    unfold b8
    apply UInt8.toNat_inj.1
    rw [UInt8.toNat_ofNat', UInt8.toNat_ofNat']
    omega
  have e2 : b8 ((N : Int) / 65536) = UInt8.ofNat (N / 256 ^ 2) := by
    unfold b8
    apply UInt8.toNat_inj.1
    rw [UInt8.toNat_ofNat', UInt8.toNat_ofNat']
    omega
  have e1 : b8 ((N : Int) / 256) = UInt8.ofNat (N / 256 ^ 1) := by
    unfold b8
    apply UInt8.toNat_inj.1
    rw [UInt8.toNat_ofNat', UInt8.toNat_ofNat']
    omega
  have e0 : b8 (N : Int) = UInt8.ofNat (N / 256 ^ 0) := by
    unfold b8
    apply UInt8.toNat_inj.1
    rw [UInt8.toNat_ofNat', UInt8.toNat_ofNat']
    omega
  unfold ageL
  rw [e3, e2, e1, e0]
  rfl
theorem kF_enc {t : Int × List UInt8} (h : sB t = true) : rshE t ≠ [] ∧ ∀ r, kF (rshE t ++ r) = (t, r, 0) := by
  obtain ⟨gr, ke⟩ := t
  have hs := sB_le h
  simp only at hs
  refine ⟨by simp [rshE, u16L], fun r => ?_⟩
  have hin : in16 gr = true := by unfold in16; simp; omega
  unfold kF rshE
  simp only [List.append_assoc]
  rw [rU_u16 hin]
  have hv : vecS (vecL 2 ke ++ r) 0 2 1 64 = (ke, r, 0) := vecS_2 ke r 1 64 (by omega) (by omega) (by omega)
  simp only [hv]
theorem iF_enc {t : List UInt8 × Int} (h : idB t = true) : ridE t ≠ [] ∧ ∀ r, iF (ridE t ++ r) = (t, r, 0) := by
  obtain ⟨ti, ag⟩ := t
  have hs := idB_le h
  simp only at hs
  refine ⟨by simp [ridE, ageL], fun r => ?_⟩
  unfold iF ridE
  simp only [List.append_assoc]
  have hv : vecS (vecL 2 ti ++ (ageL ag ++ r)) 0 2 1 255 = (ti, ageL ag ++ r, 0) := vecS_2 ti _ 1 255 (by omega) (by omega) (by omega)
  rw [hv]
  have hu : rU (ageL ag ++ r) 0 4 = (ag, r, 0) := by
    rw [ageL_be hs.2.2.1 hs.2.2.2]
    have := rU_be ag.toNat 4 (by omega) (by simp only [Nat.reducePow]; omega) r
    have e : ((ag.toNat : Nat) : Int) = ag := by omega
    rw [e] at this
    exact this
  simp only [hu]
theorem bF_enc {b : List UInt8} (h : b.length = 32) : vecL 1 b ≠ [] ∧ ∀ r, bF (vecL 1 b ++ r) = (b, r, 0) := by
  refine ⟨by intro e; have := congrArg List.length e; rw [vecL_len] at this; simp at this, fun r => ?_⟩
  exact vecS_1 b r 32 32 (by omega) (by omega) (by omega)
theorem all16_in {l : List Int} {m : Int} (h : all16B l m = true) : ∀ a ∈ l, in16 a = true := by
  unfold all16B at h
  rw [Bool.and_eq_true, List.all_eq_true] at h
  exact h.1
theorem nums_read {l : List Int} {m : Int} (h : all16B l m = true) (h1 : 1 ≤ l.length) (hm : m ≤ 8) (W : Nat) (hW : W = 1 ∨ W = 2) (t : List UInt8) : numsS (vecL W (lstL l) ++ t) 0 (W : Int) m = (l, t, 0) := by
  have hl := all16_len h
  have hr := read_flat uF u16L W hW l (fun a ha => uF_enc (all16_in h a ha)) (by
    have := lstL_len l
    unfold lstL at this
    rw [this]
    rcases hW with rfl | rfl
    · simp only [Nat.pow_one]; omega
    · simp only [Nat.reducePow]; omega) t
  unfold numsS
  unfold lstL
  rw [hr]
  simp only
  congr 2
  unfold cntB
  rw [if_neg (by omega)]
theorem nums_read' {l : List Int} {m : Int} (h : all16B l m = true) (h1 : 1 ≤ l.length) (hm : m ≤ 8) (W : Nat) (hW : W = 1 ∨ W = 2) : numsS (vecL W (lstL l)) 0 (W : Int) m = (l, [], 0) := by
  have := nums_read h h1 hm W hW []
  rwa [List.append_nil] at this

/-! ### The extensions, step by step -/
/-- From one place on to another. -/
def Reach (st : Cl) (had : List Int) (s : List UInt8) (st' : Cl) (had' : List Int) (t : List UInt8) : Prop := ∀ n, s.length < n → ∃ n', t.length < n' ∧ extsL cliF n st had s 0 = extsL cliF n' st' had' t 0
theorem Reach.trans {st st' st'' : Cl} {had had' had'' : List Int} {s t u : List UInt8} (h : Reach st had s st' had' t) (h2 : Reach st' had' t st'' had'' u) : Reach st had s st'' had'' u := by
  intro n hn
  obtain ⟨n', h3, h4⟩ := h n hn
  obtain ⟨n'', h5, h6⟩ := h2 n' h3
  exact ⟨n'', h5, h4.trans h6⟩
/-- An extension that may be there. -/
def optE (b : Prop) [Decidable b] (kind : Int) (body : List UInt8) : List UInt8 := if b then rextL kind body else []
theorem reach_opt (b : Prop) [Decidable b] (kind : Int) (body : List UInt8) (st st' : Cl) (had : List Int) (t : List UInt8) (hk : in16 kind = true) (hb : body.length ≤ 65535) (hh : kind ∉ had) (hF : b → cliF st kind body (decide (t = [])) = (st', [], 0)) (hn : ¬ b → st' = st) :
    Reach st had (optE b kind body ++ t) st' (if b then kind :: had else had) t := by
  intro n hlt
  unfold optE at hlt ⊢
  by_cases h : b
  · rw [if_pos h] at hlt ⊢
    rw [if_pos h]
    rw [List.length_append, rextL_len] at hlt
    exact ⟨n - 1, by omega, extsL_ext cliF n (by omega) st st' had kind hk body t hb hh (hF h)⟩
  · rw [if_neg h] at hlt ⊢
    rw [if_neg h, hn h]
    exact ⟨n, by simpa using hlt, rfl⟩
theorem cliF_43 (st : Cl) {l : List Int} (h : all16B l 4 = true) (h1 : 1 ≤ l.length) (last : Bool) : cliF st 43 (vecL 1 (lstL l)) last = ({ st with vers := l }, [], 0) := by
  unfold cliF
  rw [if_pos rfl]
  have := nums_read' h h1 (by omega) 1 (.inl rfl)
  rw [show ((1 : Nat) : Int) = 1 from rfl] at this
  rw [this]
theorem cliF_10 (st : Cl) {l : List Int} (h : all16B l 4 = true) (h1 : 1 ≤ l.length) (last : Bool) : cliF st 10 (vecL 2 (lstL l)) last = ({ st with grps := l }, [], 0) := by
  unfold cliF
  rw [if_neg (by decide), if_pos rfl]
  have := nums_read' h h1 (by omega) 2 (.inr rfl)
  rw [show ((2 : Nat) : Int) = 2 from rfl] at this
  rw [this]
theorem cliF_13 (st : Cl) {l : List Int} (h : all16B l 4 = true) (h1 : 1 ≤ l.length) (last : Bool) : cliF st 13 (vecL 2 (lstL l)) last = ({ st with schs := l }, [], 0) := by
  unfold cliF
  rw [if_neg (by decide), if_neg (by decide), if_pos rfl]
  have := nums_read' h h1 (by omega) 2 (.inr rfl)
  rw [show ((2 : Nat) : Int) = 2 from rfl] at this
  rw [this]
theorem cliF_51 (st : Cl) {l : List (Int × List UInt8)} (h : l.all sB = true) (h1 : 1 ≤ l.length) (h4 : l.length ≤ 4) (last : Bool) : cliF st 51 (vecL 2 (rshL l)) last = ({ st with shs := l }, [], 0) := by
  unfold cliF
  rw [if_neg (by decide), if_neg (by decide), if_neg (by decide), if_pos rfl]
  have hl := rshL_le h
  have hr := read_flat kF rshE 2 (.inr rfl) l (fun a ha => kF_enc (List.all_eq_true.1 h a ha)) (by unfold rshL at hl; simp only [Nat.reducePow]; omega) []
  rw [List.append_nil, show ((2 : Nat) : Int) = 2 from rfl] at hr
  unfold keysS rshL
  rw [hr]
  simp only
  congr 2
  unfold cntB
  rw [if_neg (by omega)]
theorem cliF_44 (st : Cl) (v : List UInt8) (last : Bool) (h1 : 1 ≤ v.length) (h2 : v.length ≤ 64) : cliF st 44 (vecL 2 v) last = ({ st with cook := v }, [], 0) := by
  unfold cliF
  rw [if_neg (by decide), if_neg (by decide), if_neg (by decide), if_neg (by decide), if_pos rfl]
  have h := vecS_2' v 1 64 h1 h2 (by omega)
  have h' : vecS (vecL 2 v) 0 2 1 64 = (v, [], 0) := h
  rw [h']
theorem cliF_45 (st : Cl) (v : List UInt8) (last : Bool) (h1 : 1 ≤ v.length) (h2 : v.length ≤ 4) : cliF st 45 (vecL 1 v) last = ({ st with modes := v }, [], 0) := by
  unfold cliF
  rw [if_neg (by decide), if_neg (by decide), if_neg (by decide), if_neg (by decide), if_neg (by decide), if_pos rfl]
  have h := vecS_1 v [] 1 4 h1 h2 (by omega)
  rw [List.append_nil] at h
  have h' : vecS (vecL 1 v) 0 1 1 4 = (v, [], 0) := h
  rw [h']
theorem cliF_41 (st : Cl) {l : List (List UInt8 × Int)} {b : List (List UInt8)} (h : ∀ t ∈ l, idB t = true) (hb : ∀ t ∈ b, t.length = 32) (he : l.length = b.length) (h1 : 1 ≤ l.length) (h4 : l.length ≤ 4) : cliF st 41 (vecL 2 (ridL l) ++ vecL 2 (rbdL b)) true = ({ st with ids := l, bnd := b }, [], 0) := by
  unfold cliF
  rw [if_neg (by decide), if_neg (by decide), if_neg (by decide), if_neg (by decide), if_neg (by decide), if_neg (by decide), if_pos rfl, if_pos rfl]
  have hl := ridL_le h
  have hl2 := rbdL_le hb
  have hr := read_flat iF ridE 2 (.inr rfl) l (fun a ha => iF_enc (h a ha)) (by unfold ridL at hl; simp only [Nat.reducePow]; omega) (vecL 2 (rbdL b))
  rw [show ((2 : Nat) : Int) = 2 from rfl] at hr
  have hr2 := read_flat bF (vecL 1) 2 (.inr rfl) b (fun a ha => bF_enc (hb a ha)) (by unfold rbdL at hl2; simp only [Nat.reducePow]; omega) []
  rw [List.append_nil, show ((2 : Nat) : Int) = 2 from rfl] at hr2
  have ho : offS (vecL 2 (ridL l) ++ vecL 2 (rbdL b)) 0 = ((l, b), [], 0) := by
    unfold offS
    have hr' : readS iF (vecL 2 (ridL l) ++ vecL 2 (rbdL b)) 0 2 = (l, vecL 2 (rbdL b), 0) := hr
    rw [hr']
    simp only
    have hr2' : readS bF (vecL 2 (rbdL b)) 0 2 = (b, [], 0) := hr2
    rw [hr2']
    simp only
    rw [if_pos he]
    congr 2
    unfold cntB
    rw [if_neg (by omega)]
  rw [ho]
theorem eC7_opt (s : Cl) : eC7 s = optE (0 < s.vers.length) 43 (vecL 1 (lstL s.vers)) ++ (optE (0 < s.grps.length) 10 (vecL 2 (lstL s.grps)) ++ (optE (0 < s.schs.length) 13 (vecL 2 (lstL s.schs)) ++ (optE (0 < s.shs.length) 51 (vecL 2 (rshL s.shs)) ++ (optE (0 < s.cook.length) 44 (vecL 2 s.cook) ++ (optE (0 < s.modes.length) 45 (vecL 1 s.modes) ++ optE (0 < s.ids.length) 41 (vecL 2 (ridL s.ids) ++ vecL 2 (rbdL s.bnd))))))) := by
  have h : ∀ (b : Prop) [Decidable b] (k : Int) (x y : List UInt8), (if b then x ++ rextL k y else x) = x ++ optE b k y := by
    intro b _ k x y
    unfold optE
    split <;> simp
  unfold eC7 eC6 eC5 eC4 eC3 eC2 eC1
  simp only [h]
  have h1 : (if 0 < s.vers.length then rextL 43 (vecL 1 (lstL s.vers)) else []) = optE (0 < s.vers.length) 43 (vecL 1 (lstL s.vers)) := rfl
  rw [h1]
  simp only [List.append_assoc]
end Go.Proofs.Ytegmimnhkohaoaa
/-
  Plain laws: what hello.PutClient puts is what the document puts. No condition.
-/
namespace Go.Proofs.Ytegmimnhkohaoaa
open Go.RowKit Go.Kx
set_option linter.unusedVariables false
set_option linter.unusedSimpArgs false
set_option maxRecDepth 100000

theorem Is.U4 {x : WS} {L : List UInt8} {ok : Bool} (h : Is x L ok) (n : Int) : Is (wU x n 4) (L ++ ageL n) (ok && (decide (0 ≤ n) && decide (n < 4294967296))) := by
  have hp : putOk n 4 ↔ (0 ≤ n ∧ n < 4294967296) := by
    unfold putOk
    have e : (256 : Int) ^ (4 : Int).toNat = 4294967296 := by decide
    rw [e]
    omega
  constructor
  · intro hk
    simp only [Bool.and_eq_true, decide_eq_true_eq] at hk
    rw [h.1 hk.1]
    unfold wU
    rw [if_pos (hp.2 hk.2), ageL_be hk.2.1 hk.2.2]
    rfl
  · intro hk
    cases ok
    · exact wU_bad n 4 (h.2 rfl)
    · simp only [Bool.true_and] at hk
      unfold wU
      rw [if_neg (fun hh => by have := hp.1 hh; simp only [Bool.and_eq_false_iff, decide_eq_false_iff_not] at hk; omega)]
theorem Is.V1L {x : WS} {L : List UInt8} {ok : Bool} (h : Is x L ok) (v : List UInt8) : Is (wV x v 1 0 65535) (L ++ vecL 1 v) (ok && decide (v.length ≤ 255)) := by
  constructor
  · intro hk
    simp only [Bool.and_eq_true, decide_eq_true_eq] at hk
    rw [h.1 hk.1]
    unfold wV
    rw [if_pos ((putOk_1 _).2 (by omega))]
    have h1 : decide ((0 : Int) ≤ (v.length : Int)) = true := decide_eq_true (by omega)
    have h2 : decide ((v.length : Int) ≤ 65535) = true := decide_eq_true (by omega)
    rw [h1, h2]
    rfl
  · intro hk
    cases ok
    · exact wV_bad v 1 0 65535 (h.2 rfl)
    · simp only [Bool.true_and, decide_eq_false_iff_not] at hk
      unfold wV
      rw [if_neg (fun hh => by have := (putOk_1 _).1 hh; omega)]
theorem wI_is (l : List Int) : Is (wI l) (lstL l) (l.all in16) := by
  have key : ∀ l : List Int, Is (wI l.reverse) (lstL l.reverse) (l.reverse.all in16) := by
    intro l
    induction l with
    | nil => exact Is.nil
    | cons a r ih =>
      rw [List.reverse_cons, wI_snoc, lstL_snoc]
      refine (ih.U a).eq (by rw [List.all_append]; simp) (fun hb => ?_)
      rw [List.all_append] at hb
      simp at hb
      rw [u16L_in hb.2]
  have := key l.reverse
  rwa [List.reverse_reverse] at this
theorem Is.L2 {x : WS} {L : List UInt8} {ok : Bool} (h : Is x L ok) (l : List Int) (m : Nat) (hm : m ≤ 8) : Is (wL x l 2 m) (L ++ vecL 2 (lstL l)) (ok && (decide (1 ≤ l.length) && all16B l m)) := by
  have hi := wI_is l
  unfold wL
  have hM := h.M (decide (1 ≤ l.length) && decide ((l.length : Int) ≤ (m : Int)))
  by_cases ha : l.all in16 = true
  · rw [ha] at hi
    rw [hi.1 rfl]
    refine ((hM.M (!false)).V2 (lstL l) 0 65535 (Nat.le_refl _)).eq ?_ (fun _ => rfl)
    unfold all16B
    rw [ha, lstL_len, Bool.eq_iff_iff]
    simp
    omega
  · have ha' : l.all in16 = false := by simpa using ha
    rw [ha'] at hi
    have hb : (wM (wM x (decide (1 ≤ l.length) && decide ((l.length : Int) ≤ (m : Int)))) (!(wI l).2)).2 = true := by unfold wM; simp [hi.2 rfl]
    refine ⟨fun hk => ?_, fun _ => wV_bad _ _ _ _ hb⟩
    unfold all16B at hk
    rw [ha'] at hk
    simp at hk
theorem Is.L1 {x : WS} {L : List UInt8} {ok : Bool} (h : Is x L ok) (l : List Int) (m : Nat) (hm : m ≤ 8) : Is (wL x l 1 m) (L ++ vecL 1 (lstL l)) (ok && (decide (1 ≤ l.length) && all16B l m)) := by
  have hi := wI_is l
  unfold wL
  have hM := h.M (decide (1 ≤ l.length) && decide ((l.length : Int) ≤ (m : Int)))
  by_cases ha : l.all in16 = true
  · rw [ha] at hi
    rw [hi.1 rfl]
    refine ((hM.M (!false)).V1L (lstL l)).eq ?_ (fun _ => rfl)
    unfold all16B
    rw [ha, lstL_len, Bool.eq_iff_iff]
    simp
    omega
  · have ha' : l.all in16 = false := by simpa using ha
    rw [ha'] at hi
    have hb : (wM (wM x (decide (1 ≤ l.length) && decide ((l.length : Int) ≤ (m : Int)))) (!(wI l).2)).2 = true := by unfold wM; simp [hi.2 rfl]
    refine ⟨fun hk => ?_, fun _ => wV_bad _ _ _ _ hb⟩
    unfold all16B at hk
    rw [ha'] at hk
    simp at hk
theorem Is.fold {α : Type} (f : WS → α → WS) (enc : α → List UInt8) (ok : α → Bool) (hf : ∀ (x : WS) (L : List UInt8) (b : Bool) (a : α), Is x L b → Is (f x a) (L ++ enc a) (b && ok a)) : ∀ (l : List α) (x : WS) (L : List UInt8) (b : Bool), Is x L b → Is (l.foldl f x) (L ++ l.flatMap enc) (b && l.all ok)
  | [], x, L, b, h => h.eq (by simp) (fun _ => by simp)
  | a :: r, x, L, b, h => by
    have := Is.fold f enc ok hf r (f x a) (L ++ enc a) (b && ok a) (hf x L b a h)
    rw [List.foldl_cons]
    exact this.eq (by rw [List.all_cons, Bool.and_assoc]) (fun _ => by rw [List.flatMap_cons, List.append_assoc])
theorem sh_one (x : WS) (L : List UInt8) (b : Bool) (a : Int × List UInt8) (hx : Is x L b) : Is (wS x a.1 a.2) (L ++ rshE a) (b && sB a) := by
  have h := (hx.U a.1).V2 a.2 1 64 (by omega)
  have e : wV (wU x a.1 2) a.2 2 ((1 : Nat) : Int) ((64 : Nat) : Int) = wS x a.1 a.2 := rfl
  rw [e] at h
  refine h.eq ?_ (fun hb => ?_)
  · unfold sB shareB in16
    simp [Bool.and_assoc]
  · have hs : sB a = true := by cases b <;> simp at hb; exact hb
    have := sB_le hs
    unfold rshE
    rw [u16L_in (by unfold in16; simp; omega), List.append_assoc]
theorem sh_is (l : List (Int × List UInt8)) {x : WS} {L : List UInt8} {b : Bool} (h : Is x L b) : Is (wSh x l) (L ++ rshL l) (b && l.all sB) := by
  have h1 := Is.fold (fun y t => wS y t.1 t.2) rshE sB
  have h2 := h1 sh_one
  have h3 := h2 l x L b h
  unfold wSh rshL
  exact h3
theorem id_one (x : WS) (L : List UInt8) (b : Bool) (a : List UInt8 × Int) (hx : Is x L b) : Is (wU (wV x a.1 2 1 255) a.2 4) (L ++ ridE a) (b && idB a) := by
  have h := (hx.V2 a.1 1 255 (by omega)).U4 a.2
  have e : wU (wV x a.1 2 ((1 : Nat) : Int) ((255 : Nat) : Int)) a.2 4 = wU (wV x a.1 2 1 255) a.2 4 := rfl
  rw [e] at h
  refine h.eq ?_ (fun hb => ?_)
  · unfold idB
    simp [Bool.and_assoc]
  · unfold ridE
    rw [List.append_assoc]
theorem id_is (l : List (List UInt8 × Int)) {x : WS} {L : List UInt8} {b : Bool} (h : Is x L b) : Is (wId x l) (L ++ ridL l) (b && l.all idB) := by
  have h1 := Is.fold (fun y t => wU (wV y t.1 2 1 255) t.2 4) ridE idB
  have h2 := h1 id_one
  have h3 := h2 l x L b h
  unfold wId ridL
  exact h3
theorem bd_is (l : List (List UInt8)) {x : WS} {L : List UInt8} {b : Bool} (h : Is x L b) : Is (wB x l) (L ++ rbdL l) (b && l.all (fun t => decide (t.length = 32))) := by
  unfold wB rbdL
  refine Is.fold (fun y t => wV y t 1 32 32) (vecL 1) (fun t => decide (t.length = 32)) (fun x L b a hx => ?_) l x L b h
  refine (hx.V1 a 32 32 (by omega)).eq ?_ (fun _ => rfl)
  congr 1
  rw [Bool.eq_iff_iff]
  simp
  omega

theorem part_list (l : List Int) (W : Nat) (hW : W ≤ 2) : (!decide (0 < l.length) || ((decide (1 ≤ l.length) && all16B l ((4 : Nat) : Int)) && decide ((vecL W (lstL l)).length ≤ 65535))) = all16B l 4 := by
  by_cases h : 0 < l.length
  · have h1 : decide (0 < l.length) = true := decide_eq_true h
    have h2 : decide (1 ≤ l.length) = true := decide_eq_true (by omega)
    rw [h1, h2]
    cases ha : all16B l 4
    · rfl
    · have := all16_len ha
      have h3 : decide ((vecL W (lstL l)).length ≤ 65535) = true := decide_eq_true (by rw [vecL_len, lstL_len]; omega)
      rw [h3]; rfl
  · have hl : l = [] := List.eq_nil_of_length_eq_zero (by omega)
    subst hl
    rfl
theorem part_sh (l : List (Int × List UInt8)) : (!decide (0 < l.length) || ((((true && decide (l.length ≤ 4)) && (true && l.all sB)) && decide ((rshL l).length ≤ 65535)) && decide ((vecL 2 (rshL l)).length ≤ 65535))) = (decide (l.length ≤ 4) && l.all sB) := by
  by_cases h : 0 < l.length
  · have h1 : decide (0 < l.length) = true := decide_eq_true h
    rw [h1]
    simp only [Bool.true_and, Bool.not_true, Bool.false_or]
    cases ha : l.all sB
    · simp
    · by_cases h4 : l.length ≤ 4
      · have := rshL_le ha
        have h3 : decide ((rshL l).length ≤ 65535) = true := decide_eq_true (by omega)
        have h5 : decide ((vecL 2 (rshL l)).length ≤ 65535) = true := decide_eq_true (by rw [vecL_len]; omega)
        rw [h3, h5]; simp
      · have h5 : decide (l.length ≤ 4) = false := decide_eq_false h4
        rw [h5]; rfl
  · have hl : l = [] := List.eq_nil_of_length_eq_zero (by omega)
    subst hl
    rfl
theorem part_raw (v : List UInt8) (W m : Nat) (hm : m ≤ 64) (hW : W ≤ 2) : (!decide (0 < v.length) || ((true && (decide (1 ≤ v.length) && decide (v.length ≤ m))) && decide ((vecL W v).length ≤ 65535))) = decide (v.length ≤ m) := by
  rw [vecL_len]
  by_cases h1 : 0 < v.length <;> by_cases h2 : v.length ≤ m <;> simp [h1, h2] <;> omega
theorem part_ids (l : List (List UInt8 × Int)) (b : List (List UInt8)) (he : l.length = b.length) :
    (!decide (0 < l.length) || ((((((true && ((true && decide (l.length ≤ 4)) && l.all idB)) && decide ((ridL l).length ≤ 65535)) && (true && b.all (fun t => decide (t.length = 32)))) && decide ((rbdL b).length ≤ 65535)) && decide ((vecL 2 (ridL l) ++ vecL 2 (rbdL b)).length ≤ 65535)))) = (decide (l.length ≤ 4) && (l.zip b).all pB) := by
  by_cases h : 0 < l.length
  · have h1 : decide (0 < l.length) = true := decide_eq_true h
    rw [h1]
    simp only [Bool.true_and, Bool.not_true, Bool.false_or]
    have hz : (l.zip b).all pB = (l.all idB && b.all (fun t => decide (t.length = 32))) := by
      rw [Bool.eq_iff_iff, Bool.and_eq_true]
      constructor
      · intro hh
        have := zip_all he hh
        exact ⟨List.all_eq_true.2 this.1, List.all_eq_true.2 (fun t ht => decide_eq_true (this.2 t ht))⟩
      · rintro ⟨h2, h3⟩
        rw [List.all_eq_true] at h2 h3 ⊢
        intro t ht
        obtain ⟨i, hi, rfl⟩ := List.getElem_of_mem ht
        rw [List.length_zip] at hi
        rw [List.getElem_zip]
        unfold pB
        rw [Bool.and_eq_true]
        exact ⟨h2 _ (List.getElem_mem _), h3 _ (List.getElem_mem _)⟩
    rw [hz]
    by_cases h4 : l.length ≤ 4
    · have h5 : decide (l.length ≤ 4) = true := decide_eq_true h4
      rw [h5]
      simp only [Bool.true_and]
      cases ha : l.all idB
      · rfl
      · cases hb : b.all (fun t => decide (t.length = 32))
        · simp
        · have k1 := ridL_le (List.all_eq_true.1 ha)
          have k2 := rbdL_le (fun t ht => of_decide_eq_true (List.all_eq_true.1 hb t ht))
          have e1 : decide ((ridL l).length ≤ 65535) = true := decide_eq_true (by omega)
          have e2 : decide ((rbdL b).length ≤ 65535) = true := decide_eq_true (by omega)
          have e3 : decide ((vecL 2 (ridL l) ++ vecL 2 (rbdL b)).length ≤ 65535) = true := decide_eq_true (by rw [List.length_append, vecL_len, vecL_len]; omega)
          rw [e1, e2, e3]; rfl
    · have h5 : decide (l.length ≤ 4) = false := decide_eq_false h4
      rw [h5]; rfl
  · have hl : l = [] := List.eq_nil_of_length_eq_zero (by omega)
    have hb : b = [] := List.eq_nil_of_length_eq_zero (by omega)
    subst hl
    subst hb
    rfl
theorem ifd {α : Type} (p : Prop) [Decidable p] (a b : α) : (if decide p = true then a else b) = if p then a else b := by
  by_cases h : p <;> simp [h]
/-- What PutClient puts: the document's bytes, if it may be put. -/
theorem putC_is (s : Cl) : Is (putC s) (rputCL s) (rokC s) := by
  have h1 : Is (yC1 s) (vecL 1 (lstL s.vers)) (decide (1 ≤ s.vers.length) && all16B s.vers ((4 : Nat) : Int)) := (Is.nil.L1 s.vers 4 (by omega)).eq (by simp) (fun _ => rfl)
  have h2 : Is (yC2 s) (vecL 2 (lstL s.grps)) (decide (1 ≤ s.grps.length) && all16B s.grps ((4 : Nat) : Int)) := (Is.nil.L2 s.grps 4 (by omega)).eq (by simp) (fun _ => rfl)
  have h3 : Is (yC3 s) (vecL 2 (lstL s.schs)) (decide (1 ≤ s.schs.length) && all16B s.schs ((4 : Nat) : Int)) := (Is.nil.L2 s.schs 4 (by omega)).eq (by simp) (fun _ => rfl)
  have h4 : Is (yC4 s) (vecL 2 (rshL s.shs)) (((true && decide (s.shs.length ≤ 4)) && (true && s.shs.all sB)) && decide ((rshL s.shs).length ≤ 65535)) := by
    have := (Is.nil.M (decide (s.shs.length ≤ 4))).N2 (sh_is s.shs Is.nil)
    exact this.eq rfl (fun _ => rfl)
  have h5 : Is (yC5 s) (vecL 2 s.cook) (true && (decide (1 ≤ s.cook.length) && decide (s.cook.length ≤ 64))) := Is.nil.V2 s.cook 1 64 (by omega)
  have h6 : Is (yC6 s) (vecL 1 s.modes) (true && (decide (1 ≤ s.modes.length) && decide (s.modes.length ≤ 4))) := Is.nil.V1 s.modes 1 4 (by omega)
  have h7 : Is (yC7 s) (vecL 2 (ridL s.ids) ++ vecL 2 (rbdL s.bnd)) (((((true && ((true && decide (s.ids.length ≤ 4)) && s.ids.all idB)) && decide ((ridL s.ids).length ≤ 65535)) && (true && s.bnd.all (fun t => decide (t.length = 32)))) && decide ((rbdL s.bnd).length ≤ 65535))) := by
    have k1 := Is.nil.N2 (id_is s.ids (Is.nil.M (decide (s.ids.length ≤ 4))))
    have k2 := k1.N2 (bd_is s.bnd Is.nil)
    exact k2.eq rfl (fun _ => rfl)
  have hA := ((((((Is.nil.P 43 (by omega) (decide (0 < s.vers.length)) h1).P 10 (by omega) (decide (0 < s.grps.length)) h2).P 13 (by omega) (decide (0 < s.schs.length)) h3).P 51 (by omega) (decide (0 < s.shs.length)) h4).P 44 (by omega) (decide (0 < s.cook.length)) h5).P 45 (by omega) (decide (0 < s.modes.length)) h6).P 41 (by omega) (decide (0 < s.ids.length)) h7
  have hx := ((((((Is.nil.M (decide (s.ids.length = s.bnd.length))).U 771).app s.R).V1 s.ses 0 32 (by omega)).L2 s.suites 8 (by omega)).V1 [0] 1 1 (by omega)).N2 hA
  simp only [ifd] at hx
  rw [part_list s.vers 1 (by omega), part_list s.grps 2 (by omega), part_list s.schs 2 (by omega), part_sh, part_raw s.cook 2 64 (by omega) (by omega), part_raw s.modes 1 4 (by omega) (by omega)] at hx
  clear hA h1 h2 h3 h4 h5 h6 h7
  change Is (putC s) (_ ++ vecL 2 (eC7 s)) (_ && decide ((eC7 s).length ≤ 65535)) at hx
  refine hx.eq ?_ (fun _ => rfl)
  rw [Bool.eq_iff_iff]
  constructor
  · intro h
    simp only [Bool.and_eq_true, decide_eq_true_eq] at h
    obtain ⟨⟨hA, hX⟩, hE⟩ := h
    obtain ⟨⟨⟨⟨⟨-, he⟩, -⟩, h1⟩, h2⟩, -⟩ := hA
    obtain ⟨⟨⟨⟨⟨⟨⟨-, h3⟩, h4⟩, h5⟩, h6⟩, h7⟩, h8⟩, h9⟩ := hX
    have hid := part_ids s.ids s.bnd he
    rw [Bool.eq_iff_iff] at hid
    have h9' := hid.1 h9
    simp only [Bool.and_eq_true, decide_eq_true_eq] at h9'
    have h2' : all16B s.suites 8 = true := h2.2
    unfold rokC ok2C ok1C
    simp only [Bool.and_eq_true, decide_eq_true_eq]
    exact ⟨⟨⟨⟨⟨⟨⟨⟨⟨⟨⟨⟨h1.2, h2.1⟩, h2'⟩, h3⟩, h4⟩, h5⟩, h6.1⟩, h7⟩, h8⟩, h9'.1⟩, he⟩, h6.2⟩, h9'.2⟩
  · intro h
    obtain ⟨o, hs, hz⟩ := rokC_of h
    have hle := (eC_le h).2.2.2.2.2.2
    have hid := part_ids s.ids s.bnd o.o11
    rw [Bool.eq_iff_iff] at hid
    have h9 := hid.2 (by rw [Bool.and_eq_true]; exact ⟨decide_eq_true o.o10, hz⟩)
    have h2' : all16B s.suites ((8 : Nat) : Int) = true := o.o3
    simp only [Bool.and_eq_true, decide_eq_true_eq]
    exact ⟨⟨⟨⟨⟨⟨⟨by trivial, o.o11⟩, by decide⟩, Nat.zero_le _, o.o1⟩, o.o2, h2'⟩, by decide⟩, ⟨⟨⟨⟨⟨⟨⟨by trivial, o.o4⟩, o.o5⟩, o.o6⟩, o.o7, hs⟩, o.o8⟩, o.o9⟩, h9⟩⟩, by omega⟩
end Go.Proofs.Ytegmimnhkohaoaa
/-
  Plain laws: a greeting of a client that was put is read again, also with an unknown extension behind its own; two of one kind can't be. No condition.
-/
namespace Go.Proofs.Ytegmimnhkohaoaa
open Go.RowKit Go.Kx
set_option linter.unusedVariables false
set_option linter.unusedSimpArgs false

theorem optE_last (b : Prop) [Decidable b] (kind : Int) (body : List UInt8) : optE b kind body = optE b kind body ++ [] := (List.append_nil _).symm
/-- The kinds that are read. -/
def kindsC : List Int := [41, 45, 44, 51, 13, 10, 43]
theorem exts_backC (s : Cl) (h : rokC s = true) (T : List UInt8) (hT : s.ids.length = 0 ∨ T = []) :
    ∃ had, (∀ k ∈ had, k ∈ kindsC) ∧ Reach ⟨s.R, s.ses, s.suites, [], [], [], [], [], [], [], []⟩ [] (eC7 s ++ T) s had T := by
  obtain ⟨o, hs, hz⟩ := rokC_of h
  obtain ⟨z1, z2⟩ := zip_all o.o11 hz
  have a4 := all16_len o.o4
  have a5 := all16_len o.o5
  have a6 := all16_len o.o6
  have o7 := o.o7
  have o8 := o.o8
  have o9 := o.o9
  have o10 := o.o10
  have o11 := o.o11
  have b7 := rshL_le hs
  have b9 := ridL_le z1
  have b10 := rbdL_le z2
  have hnil : ∀ {α : Type} (l : List α), ¬ 0 < l.length → l = [] := fun l hl => List.eq_nil_of_length_eq_zero (by omega)
  rw [eC7_opt]
  simp only [List.append_assoc]
  have r1 := reach_opt (0 < s.vers.length) 43 (vecL 1 (lstL s.vers)) ⟨s.R, s.ses, s.suites, [], [], [], [], [], [], [], []⟩ ⟨s.R, s.ses, s.suites, s.vers, [], [], [], [], [], [], []⟩ []
    (optE (0 < s.grps.length) 10 (vecL 2 (lstL s.grps)) ++ (optE (0 < s.schs.length) 13 (vecL 2 (lstL s.schs)) ++ (optE (0 < s.shs.length) 51 (vecL 2 (rshL s.shs)) ++ (optE (0 < s.cook.length) 44 (vecL 2 s.cook) ++ (optE (0 < s.modes.length) 45 (vecL 1 s.modes) ++ (optE (0 < s.ids.length) 41 (vecL 2 (ridL s.ids) ++ vecL 2 (rbdL s.bnd)) ++ T))))))
    (by decide) (by rw [vecL_len, lstL_len]; omega) (by simp) (fun hb => cliF_43 _ o.o4 hb _) (fun hb => by rw [hnil _ hb])
  have r2 := reach_opt (0 < s.grps.length) 10 (vecL 2 (lstL s.grps)) ⟨s.R, s.ses, s.suites, s.vers, [], [], [], [], [], [], []⟩ ⟨s.R, s.ses, s.suites, s.vers, s.grps, [], [], [], [], [], []⟩ (if 0 < s.vers.length then [43] else [])
    (optE (0 < s.schs.length) 13 (vecL 2 (lstL s.schs)) ++ (optE (0 < s.shs.length) 51 (vecL 2 (rshL s.shs)) ++ (optE (0 < s.cook.length) 44 (vecL 2 s.cook) ++ (optE (0 < s.modes.length) 45 (vecL 1 s.modes) ++ (optE (0 < s.ids.length) 41 (vecL 2 (ridL s.ids) ++ vecL 2 (rbdL s.bnd)) ++ T)))))
    (by decide) (by rw [vecL_len, lstL_len]; omega) (by split <;> simp) (fun hb => cliF_10 _ o.o5 hb _) (fun hb => by rw [hnil _ hb])
  obtain ⟨h1, hh1⟩ : ∃ x, x = (if 0 < s.vers.length then [(43 : Int)] else []) := ⟨_, rfl⟩
  have k1 : ∀ k ∈ h1, k ∈ [(43 : Int)] := by rw [hh1]; split <;> simp
  rw [← hh1] at r1 r2
  obtain ⟨h2, hh2⟩ : ∃ x, x = (if 0 < s.grps.length then (10 : Int) :: h1 else h1) := ⟨_, rfl⟩
  have k2 : ∀ k ∈ h2, k ∈ [(10 : Int), 43] := by
    rw [hh2]
    split
    · intro k hk
      rcases List.mem_cons.1 hk with rfl | hk
      · simp
      · have := k1 k hk; simp at this; simp [this]
    · intro k hk; have := k1 k hk; simp at this; simp [this]
  rw [← hh2] at r2
  have r3 := reach_opt (0 < s.schs.length) 13 (vecL 2 (lstL s.schs)) ⟨s.R, s.ses, s.suites, s.vers, s.grps, [], [], [], [], [], []⟩ ⟨s.R, s.ses, s.suites, s.vers, s.grps, s.schs, [], [], [], [], []⟩ h2
    (optE (0 < s.shs.length) 51 (vecL 2 (rshL s.shs)) ++ (optE (0 < s.cook.length) 44 (vecL 2 s.cook) ++ (optE (0 < s.modes.length) 45 (vecL 1 s.modes) ++ (optE (0 < s.ids.length) 41 (vecL 2 (ridL s.ids) ++ vecL 2 (rbdL s.bnd)) ++ T))))
    (by decide) (by rw [vecL_len, lstL_len]; omega) (fun hk => by have := k2 _ hk; simp at this) (fun hb => cliF_13 _ o.o6 hb _) (fun hb => by rw [hnil _ hb])
  obtain ⟨h3, hh3⟩ : ∃ x, x = (if 0 < s.schs.length then (13 : Int) :: h2 else h2) := ⟨_, rfl⟩
  have k3 : ∀ k ∈ h3, k ∈ [(13 : Int), 10, 43] := by
    rw [hh3]
    split
    · intro k hk
      rcases List.mem_cons.1 hk with rfl | hk
      · simp
      · have := k2 k hk; simp at this; rcases this with h | h <;> simp [h]
    · intro k hk; have := k2 k hk; simp at this; rcases this with h | h <;> simp [h]
  rw [← hh3] at r3
  have r4 := reach_opt (0 < s.shs.length) 51 (vecL 2 (rshL s.shs)) ⟨s.R, s.ses, s.suites, s.vers, s.grps, s.schs, [], [], [], [], []⟩ ⟨s.R, s.ses, s.suites, s.vers, s.grps, s.schs, s.shs, [], [], [], []⟩ h3
    (optE (0 < s.cook.length) 44 (vecL 2 s.cook) ++ (optE (0 < s.modes.length) 45 (vecL 1 s.modes) ++ (optE (0 < s.ids.length) 41 (vecL 2 (ridL s.ids) ++ vecL 2 (rbdL s.bnd)) ++ T)))
    (by decide) (by rw [vecL_len]; omega) (fun hk => by have := k3 _ hk; simp at this) (fun hb => cliF_51 _ hs hb o7 _) (fun hb => by rw [hnil _ hb])
  obtain ⟨h4, hh4⟩ : ∃ x, x = (if 0 < s.shs.length then (51 : Int) :: h3 else h3) := ⟨_, rfl⟩
  have k4 : ∀ k ∈ h4, k ∈ [(51 : Int), 13, 10, 43] := by
    rw [hh4]
    split
    · intro k hk
      rcases List.mem_cons.1 hk with rfl | hk
      · simp
      · have := k3 k hk; simp at this; rcases this with h | h | h <;> simp [h]
    · intro k hk; have := k3 k hk; simp at this; rcases this with h | h | h <;> simp [h]
  rw [← hh4] at r4
  have r5 := reach_opt (0 < s.cook.length) 44 (vecL 2 s.cook) ⟨s.R, s.ses, s.suites, s.vers, s.grps, s.schs, s.shs, [], [], [], []⟩ ⟨s.R, s.ses, s.suites, s.vers, s.grps, s.schs, s.shs, s.cook, [], [], []⟩ h4
    (optE (0 < s.modes.length) 45 (vecL 1 s.modes) ++ (optE (0 < s.ids.length) 41 (vecL 2 (ridL s.ids) ++ vecL 2 (rbdL s.bnd)) ++ T))
    (by decide) (by rw [vecL_len]; omega) (fun hk => by have := k4 _ hk; simp at this) (fun hb => cliF_44 _ _ _ hb o8) (fun hb => by rw [hnil _ hb])
  obtain ⟨h5, hh5⟩ : ∃ x, x = (if 0 < s.cook.length then (44 : Int) :: h4 else h4) := ⟨_, rfl⟩
  have k5 : ∀ k ∈ h5, k ∈ [(44 : Int), 51, 13, 10, 43] := by
    rw [hh5]
    split
    · intro k hk
      rcases List.mem_cons.1 hk with rfl | hk
      · simp
      · have := k4 k hk; simp at this; rcases this with h | h | h | h <;> simp [h]
    · intro k hk; have := k4 k hk; simp at this; rcases this with h | h | h | h <;> simp [h]
  rw [← hh5] at r5
  have r6 := reach_opt (0 < s.modes.length) 45 (vecL 1 s.modes) ⟨s.R, s.ses, s.suites, s.vers, s.grps, s.schs, s.shs, s.cook, [], [], []⟩ ⟨s.R, s.ses, s.suites, s.vers, s.grps, s.schs, s.shs, s.cook, s.modes, [], []⟩ h5
    (optE (0 < s.ids.length) 41 (vecL 2 (ridL s.ids) ++ vecL 2 (rbdL s.bnd)) ++ T)
    (by decide) (by rw [vecL_len]; omega) (fun hk => by have := k5 _ hk; simp at this) (fun hb => cliF_45 _ _ _ hb o9) (fun hb => by rw [hnil _ hb])
  obtain ⟨h6, hh6⟩ : ∃ x, x = (if 0 < s.modes.length then (45 : Int) :: h5 else h5) := ⟨_, rfl⟩
  have k6 : ∀ k ∈ h6, k ∈ [(45 : Int), 44, 51, 13, 10, 43] := by
    rw [hh6]
    split
    · intro k hk
      rcases List.mem_cons.1 hk with rfl | hk
      · simp
      · have := k5 k hk; simp at this; rcases this with h | h | h | h | h <;> simp [h]
    · intro k hk; have := k5 k hk; simp at this; rcases this with h | h | h | h | h <;> simp [h]
  rw [← hh6] at r6
  have r7 := reach_opt (0 < s.ids.length) 41 (vecL 2 (ridL s.ids) ++ vecL 2 (rbdL s.bnd)) ⟨s.R, s.ses, s.suites, s.vers, s.grps, s.schs, s.shs, s.cook, s.modes, [], []⟩ s h6 T
    (by decide) (by rw [List.length_append, vecL_len, vecL_len]; omega) (fun hk => by have := k6 _ hk; simp at this)
    (fun hb => by
      have hTn : T = [] := by rcases hT with h | h; omega; exact h
      subst hTn
      exact cliF_41 _ z1 z2 o11 hb o10)
    (fun hb => by rw [← hnil _ hb, ← hnil s.bnd (by omega)])
  refine ⟨if 0 < s.ids.length then 41 :: h6 else h6, ?_, ((((((r1.trans r2).trans r3).trans r4).trans r5).trans r6).trans r7)⟩
  intro k hk
  unfold kindsC
  split at hk
  · rcases List.mem_cons.1 hk with rfl | hk
    · simp
    · exact List.mem_cons_of_mem _ (k6 k hk)
  · exact List.mem_cons_of_mem _ (k6 k hk)
/-- A greeting with extensions E, whatever they are. -/
def greetL (s : Cl) (E : List UInt8) : List UInt8 := ((([3, 3] ++ s.R) ++ vecL 1 s.ses) ++ vecL 2 (lstL s.suites)) ++ [1, 0] ++ vecL 2 E
theorem rputCL_greet (s : Cl) : rputCL s = greetL s (eC7 s) := rfl
theorem getC_head (s : Cl) (hR : s.R.length = 32) (h : rokC s = true) (E : List UInt8) : getC (greetL s E) = gcX ⟨s.R, s.ses, s.suites, [], [], [], [], [], [], [], []⟩ (vecL 2 E) 0 := by
  obtain ⟨o, -, -⟩ := rokC_of h
  have e0 : greetL s E = u16L 771 ++ (s.R ++ (vecL 1 s.ses ++ (vecL 2 (lstL s.suites) ++ (vecL 1 [0] ++ vecL 2 E)))) := by
    unfold greetL
    simp only [List.append_assoc]
    rfl
  rw [e0]
  unfold getC
  rw [mustS_u16 (by decide)]
  unfold gcT
  obtain ⟨a1, a2, a3⟩ := S_app s.R (vecL 1 s.ses ++ (vecL 2 (lstL s.suites) ++ (vecL 1 [0] ++ vecL 2 E))) 32 (by rw [hR]; rfl)
  simp only [a1, a2, a3]
  have hg : rndG s.R = s.R := by
    unfold rndG
    rw [hR]
    simp
  rw [hg]
  unfold gcV
  have hv : vecS (vecL 1 s.ses ++ (vecL 2 (lstL s.suites) ++ (vecL 1 [0] ++ vecL 2 E))) 0 1 0 32 = (s.ses, vecL 2 (lstL s.suites) ++ (vecL 1 [0] ++ vecL 2 E), 0) := vecS_1 s.ses _ 0 32 (by omega) o.o1 (by omega)
  simp only [hv]
  unfold gcN
  have hn : numsS (vecL 2 (lstL s.suites) ++ (vecL 1 [0] ++ vecL 2 E)) 0 2 8 = (s.suites, vecL 1 [0] ++ vecL 2 E, 0) := nums_read o.o3 o.o2 (by omega) 2 (.inr rfl) _
  simp only [hn]
  unfold gcC
  have hc : vecS (vecL 1 [0] ++ vecL 2 E) 0 1 1 1 = ([0], vecL 2 E, 0) := vecS_1 [0] _ 1 1 (by decide) (by decide) (by omega)
  simp only [hc]
  rfl
theorem gcX_reach (st st' : Cl) (E : List UInt8) (hE : E.length ≤ 65535) (had : List Int) (T : List UInt8) (hr : Reach st [] E st' had T) : ∃ n, T.length < n ∧ gcX st (vecL 2 E) 0 = gcZ (extsL cliF n st' had T 0).1 [] (insB 0 (extsL cliF n st' had T 0).2) := by
  obtain ⟨n, h1, h2⟩ := hr (E.length + 1) (by omega)
  refine ⟨n, h1, ?_⟩
  unfold gcX
  have he : vecS (vecL 2 E) 0 2 0 65535 = (E, [], 0) := vecS_2' E 0 65535 (by omega) hE (by omega)
  simp only [he]
  rw [h2]
/-- What was put is read again. -/
theorem getC_back (s : Cl) (hR : s.R.length = 32) (h : rokC s = true) : getC (rputCL s) = (s, 0) := by
  rw [rputCL_greet, getC_head s hR h]
  obtain ⟨had, -, hr⟩ := exts_backC s h [] (.inr rfl)
  rw [List.append_nil] at hr
  obtain ⟨n, -, h2⟩ := gcX_reach _ _ _ (by have := (eC_le h).2.2.2.2.2.2; omega) _ _ hr
  rw [h2, extsL_stop _ _ _ _ _ _ (.inl rfl)]
  rfl
theorem skip_ext (st : Cl) (k : Int) (b : List UInt8) (last : Bool) (hk : k ∉ kindsC) : cliF st k b last = (st, [], 0) := by
  unfold kindsC at hk
  simp only [List.mem_cons, List.not_mem_nil, or_false, not_or] at hk
  unfold cliF
  rw [if_neg hk.2.2.2.2.2.2, if_neg hk.2.2.2.2.2.1, if_neg hk.2.2.2.2.1, if_neg hk.2.2.2.1, if_neg hk.2.2.1, if_neg hk.2.1, if_neg hk.1]
  have hb : badS b 0 (b.length : Int) = 0 := by
    unfold badS
    rw [if_neg (by omega), if_neg (by omega)]
  unfold skipS leftS
  rw [hb, if_pos rfl]
  simp
/-- An unknown extension behind the others is left out. -/
theorem getC_extra (s : Cl) (hR : s.R.length = 32) (h : rokC s = true) (hi : s.ids.length = 0) (k : Int) (b : List UInt8) (hk : in16 k = true) (hu : k ∉ kindsC) (hb : b.length ≤ 40) : getC (greetL s (eC7 s ++ rextL k b)) = (s, 0) := by
  rw [getC_head s hR h]
  obtain ⟨had, hh, hr⟩ := exts_backC s h (rextL k b) (.inl hi)
  obtain ⟨n, hn, h2⟩ := gcX_reach _ _ _ (by have := (eC_le h).2.2.2.2.2.2; rw [List.length_append, rextL_len]; omega) _ _ hr
  rw [h2, extsL_ext' cliF n (by omega) s s had k hk b (by omega) (fun e => hu (hh k e)) (skip_ext s k b true hu)]
  rfl
/-- Two of one kind can't be. -/
theorem getC_twice (s : Cl) (hR : s.R.length = 32) (h : rokC s = true) (hi : s.ids.length = 0) (k : Int) (b : List UInt8) (hk : in16 k = true) (hu : k ∉ kindsC) (hb : b.length ≤ 40) : (getC (greetL s (eC7 s ++ rextL k b ++ rextL k b))).2 = 3 := by
  rw [getC_head s hR h]
  obtain ⟨had, hh, hr⟩ := exts_backC s h (rextL k b ++ rextL k b) (.inl hi)
  rw [← List.append_assoc] at hr
  obtain ⟨n, hn, h2⟩ := gcX_reach _ _ _ (by have := (eC_le h).2.2.2.2.2.2; rw [List.length_append, List.length_append, rextL_len]; omega) _ _ hr
  rw [List.length_append, rextL_len] at hn
  rw [h2, extsL_ext cliF n (by omega) s s had k hk b (rextL k b) (by omega) (fun e => hu (hh k e)) (skip_ext s k b _ hu)]
  obtain ⟨m, hm⟩ : ∃ m, n - 1 = m + 1 := ⟨n - 2, by omega⟩
  rw [hm]
  have hne : rextL k b ≠ [] := by intro e; have := congrArg List.length e; rw [rextL_len] at this; simp at this
  rw [extsL_go cliF m s (k :: had) _ hne]
  have hhd : (headS (k :: had) (rextL k b)).2.2.2 = 3 := by
    have h1 := headS_ext [] k hk b [] (by omega) (by simp)
    rw [List.append_nil] at h1
    unfold headS at h1 ⊢
    simp only [Prod.mk.injEq] at h1 ⊢
    obtain ⟨e1, e2, e3, e4⟩ := h1
    simp only [List.not_mem_nil, if_false] at e4
    simp only [e1, List.mem_cons, true_or, if_true, e4]
    rfl
  have hbad : insB (headS (k :: had) (rextL k b)).2.2.2 (cliF s (headS (k :: had) (rextL k b)).1 (headS (k :: had) (rextL k b)).2.1 (decide ((headS (k :: had) (rextL k b)).2.2.1 = []))).2 = 3 := by
    rw [hhd]
    unfold insB rm
    split
    · rfl
    · rfl
  simp only [hbad]
  rw [extsL_stop _ _ _ _ _ _ (.inr (by decide))]
  rfl
end Go.Proofs.Ytegmimnhkohaoaa
