/-
  The contract of relayref08.GetClient. Condition: at most 2 to the 46th bytes.
-/
import Derived.Test.YtegmimnhkohaoaaZRfI
import Derived.Test.YtegmimnhkohaoaaZg8
import Derived.Test.YtegmimnhkohaoaaZRfF
import Derived.Test.YtegmimnhkohaoaaZHelV
namespace Go.Proofs.Ytegmimnhkohaoaa
open Go.RowKit Go.Kx
set_option linter.unusedVariables false
set_option linter.unusedSimpArgs false
set_option maxRecDepth 100000

theorem Try.built_rcZ : Try.prog.built 48 [] = some (clV clZ z10) := by kernel_rfl
/-- What the document's GetClient tells, step by step. -/
def rgcX (st : Cl) (l : List UInt8) (bad : Int) : Cl × Int := gcZ (rexS st l bad).1 (rexS st l bad).2.1 (rexS st l bad).2.2
def rcmpB (c : List UInt8) (bad : Int) : Int := failB bad (decide (c ≠ [0]))
def rgcC (st : Cl) (l : List UInt8) (bad : Int) : Cl × Int :=
  let c := vecS l bad 1 1 1
  rgcX st c.2.1 (rcmpB c.1 c.2.2)
def rgcN (st : Cl) (l : List UInt8) (bad : Int) : Cl × Int :=
  let n := rnumsS l bad 2 8
  rgcC { st with suites := n.1 } n.2.1 n.2.2
def rgcV (st : Cl) (l : List UInt8) (bad : Int) : Cl × Int :=
  let v := vecS l bad 1 0 32
  rgcN { st with ses := v.1 } v.2.1 v.2.2
def rgcT (l : List UInt8) (bad : Int) : Cl × Int := rgcV { clZ with R := rndG (outS l bad 32) } (leftS l bad 32) (badS l bad 32)
def rgetC (b : List UInt8) : Cl × Int := rgcT (rU b 0 2).2.1 (failB (rU b 0 2).2.2 ((rU b 0 2).1 != 771))
theorem rnumsS_left (s : List UInt8) (bad W m : Int) : (rnumsS s bad W m).2.1.length ≤ s.length := vecS_left s bad W 0 65535

theorem byte_zero {x : UInt8} (h : x.toNat = 0) : x = 0 := UInt8.toNat_inj.1 h
/-- What stays while a Client is read. -/
structure RcI (w : World) (q0 r g : Nat) (b : List UInt8) (st : Cl) (z : Z10) (l : List UInt8) (bad : Int) (wx : World) : Prop where
  cur : Rf wx r g b l bad
  bel : Below w.heap.size w wx
  zb : Blk wx w.heap.size 48 (clV clZ z10)
  sv : CB wx q0 (fun k => q0 < k) st z
  hr : w.heap.size < r
  hg : g ≠ q0
  hrq : r < q0
  hgr : g < q0
section
variable {w wx wy : World} {q0 r g : Nat} {b : List UInt8} {st st' : Cl} {z z' : Z10} {l l' : List UInt8} {bad bad' : Int}
theorem RcI.step (h : RcI w q0 r g b st z l bad wx) (hc : Rf wy r g b l' bad') (ho : Only (· = r) wx wy) : RcI w q0 r g b st z l' bad' wy :=
  ⟨hc, below_only h.bel h.bel.size ho (by intro k hk e; have := h.hr; omega), h.zb.only ho (by have := h.hr; omega), h.sv.only ho (fun k hk => by have := h.hrq; subst hk; exact ⟨by omega, by omega⟩), h.hr, h.hg, h.hrq, h.hgr⟩
theorem RcI.set (h : RcI w q0 r g b st z l bad wx) (hs : CB wy q0 (fun k => q0 < k) st' z') (ho : Only (· = q0) wx wy) : RcI w q0 r g b st' z' l bad wy :=
  ⟨h.cur.only ho (by have := h.hrq; omega) h.hg, below_only h.bel h.bel.size ho (by intro k hk e; have := h.hr; have := h.hrq; omega), h.zb.only ho (by have := h.hr; have := h.hrq; omega), hs, h.hr, h.hg, h.hrq, h.hgr⟩
end

set_option maxHeartbeats 8000000 in
theorem rgetClient_c (S : Nat → Prop) (p : Option Addr) (n c : Nat) (b : List UInt8) (w : World) (hR : Rd w S p b) (hp : p = none → c = 0) (hp2 : ∀ x, p = some x → x.spot = none ∧ x.block < w.heap.size) (h1 : n ≤ c) (h2 : c ≤ maxLen) (hl : b.length ≤ 70368744177664) (hn : b.length = n) :
    Calls Try.prog 19 #[.slice p n c] w (GetCR w (rgetC b)) := by
  have HR := Lib.hid (And.intro hR (And.intro hp (And.intro hn (And.intro hp2 (And.intro h1 h2)))))
  clear hR hp hn hp2 h1 h2
  have hz := run_zeroRc
  obtain ⟨y, hy⟩ : ∃ y, y = rgetC b := ⟨_, rfl⟩
  rw [← hy]
  have HGS := Lib.hid hy
  clear hy
  go_enter Try.func19, Try.ntmps19
  go_upto_region 1 with (fail)
  have hB0 : Below w.heap.size w (w.alloc (.cells (clV clZ z10) 48)) := (Below.refl _ _).alloc (Nat.le_refl _) _
  have hb0 := Blk.new w 48 (clV clZ z10)
  have hz0 := World.size_alloc w (.cells (clV clZ z10) 48)
  generalize w.alloc (.cells (clV clZ z10) 48) = w0 at *
  have hz0' : w.heap.size < w0.heap.size := by omega
  clear hz0
  obtain ⟨g, hgl, hgo, hRf⟩ := Rf.new (q := w.heap.size) (HR.out.1.below hB0) HR.out.2.2.1 HR.out.2.1 (fun x hx => ⟨(HR.out.2.2.2.1 x hx).1, by have := (HR.out.2.2.2.1 x hx).2; omega⟩) HR.out.2.2.2.2.1 HR.out.2.2.2.2.2 (by omega)
  go_upto_region 2 with (fail)
  have hB1 : Below w0.heap.size w0 (w0.alloc (.cells #[.slice p n c, .int .i64 0, .int .i64 0] 109)) := (Below.refl _ _).alloc (Nat.le_refl _) _
  have hz1 := World.size_alloc w0 (.cells #[.slice p n c, .int .i64 0, .int .i64 0] 109)
  generalize w0.alloc (.cells #[.slice p n c, .int .i64 0, .int .i64 0] 109) = w1 at *
  have hz1' : w0.heap.size < w1.heap.size := by omega
  clear hz1
  go_upto_region 3 with (fail)
  have hB2 : Below w1.heap.size w1 (w1.alloc (.cells (clV clZ z10) 48)) := (Below.refl _ _).alloc (Nat.le_refl _) _
  have hb2 := Blk.new w1 48 (clV clZ z10)
  generalize w1.alloc (.cells (clV clZ z10) 48) = w2 at *
  have hI2 : RcI w w1.heap.size w0.heap.size g b clZ z10 b 0 w2 :=
    ⟨hRf.only (Only.of_below (r := fun _ => False) hB2) (fun h => h) (fun h => h), (hB0.trans (hB1.mono (by omega))).trans (hB2.mono (by omega)), ((hb0.below hB1).below hB2), ⟨hb2, IsCl.zero _ _⟩, by omega, by omega, by omega, by omega⟩
  have I2 := Lib.hid hI2
  obtain ⟨q0, hq0⟩ : ∃ q0, q0 = w1.heap.size := ⟨_, rfl⟩
  obtain ⟨r, hr⟩ : ∃ r, r = w0.heap.size := ⟨_, rfl⟩
  rw [← hq0, ← hr] at I2
  rw [← hq0, ← hr]
  have hwr : w.heap.size < r := by omega
  have hrq : r < q0 := by omega
  clear hB0 hb0 hgo hRf hB1 hB2 hb2 hI2 hz hgl hq0 hr
  -- the number
  have hrwl := I2.out.cur.rlt
  have hul := rU_left b 0 2
  have HU := Lib.hid (fun wx (h : Rf wx r g b b 0) => rfu_c r g b b 0 2 wx h (by omega))
  have hy := HGS.out
  unfold rgetC at hy
  generalize rU b 0 2 = u at *
  obtain ⟨a, l0, e0⟩ := u
  simp only at hul HU hy
  have HFA := Lib.hid (fun wx (h : Rf wx r g b l0 e0) => rfail_c r g b l0 e0 (a != 771) wx h)
  obtain ⟨e1, he1⟩ : ∃ e1, e1 = failB e0 (a != 771) := ⟨_, rfl⟩
  rw [← he1] at HFA hy
  have HY0 := Lib.hid hy
  clear hy he1
  go_upto_region 5 with (first
    | (go_at_call 57; refine (HU.out _ I2.out.cur).mono ?_; rintro e w3 ⟨rfl, hc, ho⟩; have I3 := Lib.hid (I2.out.step hc ho); clear hc ho)
    | (go_at_call 58; refine (HFA.out _ I3.out.cur).mono ?_; rintro e w4 ⟨rfl, hc, ho⟩; have I4 := Lib.hid (I3.out.step hc ho); have hz34 := ho.size; clear hc ho))
  clear I2 I3 HU HFA
  -- the random number
  have ho32 := outS_32 l0 e1
  have hlo := leftS_le l0 e1 32
  have HBy := Lib.hid (fun wx (h : Rf wx r g b l0 e1) => rbytes_c r g b l0 e1 32 wx h (by omega))
  have hy1 : y = rgcV { clZ with R := rndG (outS l0 e1 32) } (leftS l0 e1 32) (badS l0 e1 32) := HY0.out
  clear HY0
  generalize outS l0 e1 32 = o at *
  generalize leftS l0 e1 32 = l1 at *
  generalize badS l0 e1 32 = b1 at *
  have HY1 := Lib.hid hy1
  clear hy1
  have HD := Lib.hid (show Rf w4.drew r g b l0 e1 from I4.out.cur.only ((Only.refl (fun _ => False) w4).drew) (fun h => h) (fun h => h))
  have hs4 : q0 < w4.heap.size := I4.out.sv.b.lt
  have HFIT := Lib.hid (show 0 + (o.map B8).length ≤ (clV clZ z10).toList.length by rw [List.length_map, clV_len _ _ rfl]; omega)
  go_region_held3 (fun w' => True) (trivial) (first
    | (go_at_call 59; refine (HBy.out _ (by first | exact HD.out | exact I4.out.cur)).mono ?_; rintro e w5 ⟨g', p', c', rfl, k1, hO, hc, hoq⟩; have ho : Only (· = r) w4 w5 := ⟨hoq.os, hoq.tape, hoq.output, hoq.size, hoq.block⟩; clear hoq; have H5 := Lib.hid (And.intro hO (I4.out.step hc ho)); have hs5 := ho.size; clear hO hc ho)
    | (refine step_copy_splice rfl (.tmp 19) (.tmp 21) 23 23 rfl 5 Try.underlying23 (by kernel_rfl) _ _ _ _ _ _ rfl rfl q0 0 (clV clZ z10).toList 48 (by rw [Array.toArray_toList]; exact H5.out.2.sv.b) (o.map B8) (by rw [List.length_map]; exact (Nat.min_eq_left ho32).symm) (fun h0 => ⟨rfl, rd_src H5.out.1.rd h0⟩) HFIT.out (oneCell_map _) q0 w5 (Below.refl _ _) (Nat.le_refl _) ?_; intro w6 hg6 hb6; have HG6 := Lib.hid (And.intro hg6.out hb6); clear hg6 hb6))
  have hRl : (rndG o).length = 32 := rndG_len ho32
  have hG6 : RcI w q0 r g b { clZ with R := rndG o } z10 l1 b1 w6 := by
    have ho6 := Only.of_belowN HG6.out.2
    have hI := H5.out.2
    have hz := IsCl.zero w6 (fun k => q0 < k)
    have hgr := hI.hgr
    refine ⟨hI.cur.only ho6 (by omega) (by omega), below_only hI.bel hI.bel.size ho6 (by intro k hk e; omega), hI.zb.only ho6 (by omega), ⟨?_, ⟨hRl, hz.s1, hz.s2, hz.s3, hz.s4, hz.s5, hz.s6, hz.s7, hz.s8, hz.s9, hz.s10⟩⟩, hI.hr, hI.hg, hI.hrq, hI.hgr⟩
    have h := HG6.out.1
    rw [splice_rndC clZ z10 o rfl ho32] at h
    exact h
  have G6 := Lib.hid hG6
  have hs6 := hG6.bel.size
  have hqw := hG6.sv.b.lt
  have hrw := hG6.cur.rlt
  clear hG6 HG6 H5 I4 HD HFIT HBy
  generalize rndG o = R at *
  have hs1R : ({ clZ with R := R } : Cl).shs = [] ∧ ({ clZ with R := R } : Cl).ids = [] := ⟨rfl, rfl⟩
  generalize ({ clZ with R := R } : Cl) = s1 at *
  -- the session
  have hy2 := HY1.out
  clear HY1
  unfold rgcV at hy2
  dsimp only at hy2
  have hlv := vecS_left l1 b1 1 0 32
  have HV := Lib.hid (fun wx (h : Rf wx r g b l1 b1) => rvector_c r g b l1 b1 1 0 32 wx h (by omega))
  generalize vecS l1 b1 1 0 32 = v at *
  have HY2 := Lib.hid hy2
  clear hy2
  go_upto_region 7 with (go_at_call 60; refine (HV.out _ G6.out.cur).mono ?_; rintro e w7 ⟨g7, p7, c7, rfl, hg7, hO, hc, ho⟩; have hz7 := ho.size; have G7a := G6.out.step hc ho; have c32 := G7a.sv.cell 0; have f32 := G7a.sv.b.fr 32; have P7 := Lib.hid (G7a.set (G7a.sv.put (fun h => Nat.lt_irrefl _ h) 0 (.slice p7 v.1.length c7) { s1 with ses := v.1 } { z10 with p1 := p7, n1 := v.1.length, c1 := c7 } rfl rfl ⟨G7a.sv.i.len, SlS.of_own hO rfl (show q0 < g7 by omega), G7a.sv.i.s2, G7a.sv.i.s3, G7a.sv.i.s4, G7a.sv.i.s5, G7a.sv.i.s6, G7a.sv.i.s7, G7a.sv.i.s8, G7a.sv.i.s9, G7a.sv.i.s10⟩) ((Only.refl (fun k => k = q0) _).setCell _ _ (.inl rfl))); clear hc ho hO G7a hg7)
  have hq7 := P7.out.sv.b.lt
  generalize w7.setCell ⟨q0, 32, none⟩ (.slice p7 v.1.length c7) = w8 at *
  have hzz : ∀ p n c, (({ z10 with p1 := p, n1 := n, c1 := c } : Z10).p6 = none) := fun _ _ _ => rfl
  clear G6 HV hzz
  -- the suites
  have hy3 := HY2.out
  clear HY2
  unfold rgcN at hy3
  dsimp only at hy3
  have hln := rnumsS_left v.2.1 v.2.2 2 8
  have HN := Lib.hid (fun wx (h : Rf wx r g b v.2.1 v.2.2) => rnumbers_c r g b v.2.1 v.2.2 2 8 wx h (by omega) (by decide) (by decide))
  generalize rnumsS v.2.1 v.2.2 2 8 = u at *
  have HY3 := Lib.hid hy3
  clear hy3
  go_upto_region 8 with (go_at_call 61; refine (HN.out _ P7.out.cur).mono ?_; rintro e w9 ⟨p9, n9, c9, rfl, hS, hc, ho⟩; have hz9 := ho.size; have G9 := P7.out.step hc ho; have c33 := G9.sv.cell 1; have f33 := G9.sv.b.fr 33; have P9 := Lib.hid (G9.set (G9.sv.put (fun h => Nat.lt_irrefl _ h) 1 (.slice p9 n9 c9) { s1 with ses := v.1, suites := u.1 } { z10 with p1 := p7, n1 := v.1.length, c1 := c7, p2 := p9, n2 := n9, c2 := c9 } rfl rfl ⟨G9.sv.i.len, G9.sv.i.s1, hS.mono (fun k _ hk => by omega), G9.sv.i.s3, G9.sv.i.s4, G9.sv.i.s5, G9.sv.i.s6, G9.sv.i.s7, G9.sv.i.s8, G9.sv.i.s9, G9.sv.i.s10⟩) ((Only.refl (fun k => k = q0) _).setCell _ _ (.inl rfl))); clear hc ho hS G9)
  have hq9 := P9.out.sv.b.lt
  generalize w9.setCell ⟨q0, 33, none⟩ (.slice p9 n9 c9) = w10 at *
  clear P7 HN
  -- the compression
  have hy4 := HY3.out
  clear HY3
  unfold rgcC at hy4
  dsimp only at hy4
  have hlc := vecS_left u.2.1 u.2.2 1 1 1
  have hls : (vecS u.2.1 u.2.2 1 1 1).1.length ≤ 1 := vecS_short u.2.1 u.2.2 1 1 1
  have HC := Lib.hid (fun wx (h : Rf wx r g b u.2.1 u.2.2) => rvector_c r g b u.2.1 u.2.2 1 1 1 wx h (by omega))
  generalize vecS u.2.1 u.2.2 1 1 1 = a2 at *
  obtain ⟨cz, l3, e3⟩ := a2
  simp only at hlc hls HC hy4
  obtain ⟨b6, hb6⟩ : ∃ b6, b6 = rcmpB cz e3 := ⟨_, rfl⟩
  rw [← hb6] at hy4
  have HY4 := Lib.hid hy4
  have HB6 := Lib.hid hb6
  clear hy4 hb6
  have hcz : cz = [] ∨ ∃ x, cz = [x] := by
    match cz, hls with
    | [], _ => exact .inl rfl
    | [x], _ => exact .inr ⟨x, rfl⟩
  go_upto_region 9 with (go_at_call 60; refine (HC.out _ P9.out.cur).mono ?_; rintro e w11 ⟨g11, p11, c11, rfl, hg11, hO, hc, ho⟩; have hz11 := ho.size; have G11 := Lib.hid (And.intro (P9.out.step hc ho) hO); clear hc ho hO)
  go_cut [40] (fun _ wx => RcI w q0 r g b { s1 with ses := v.1, suites := u.1 } { z10 with p1 := p7, n1 := v.1.length, c1 := c7, p2 := p9, n2 := n9, c2 := c9 } l3 b6 wx)
  case first =>
    have HFB := Lib.hid (fun wx is (h : Rf wx r g b l3 e3) => rfail_c r g b l3 e3 is wx h)
    rcases hcz with rfl | ⟨x, rfl⟩
    · have h6 : b6 = failB e3 true := by rw [HB6.out]; rfl
      have H6 := Lib.hid h6
      clear h6
      go_wp2_with (go_at_call 58; refine (HFB.out _ true G11.out.1.cur).mono ?_; rintro e w12 ⟨rfl, hc, ho⟩; have G12 := Lib.hid (G11.out.1.step hc ho); clear hc ho)
      go_meet
      rw [H6.out]
      exact G12.out
    · obtain ⟨gc, oc, rfl, -, hgc, hat⟩ := G11.out.2.rd.at (by simp)
      have hc0 : w11.cell? ⟨gc, oc, none⟩ = some (.int .u8 (x.toNat : Int)) := by simpa using hat 0 (by simp)
      have hxl := x.toNat_lt
      have HC0 := Lib.hid hat
      clear hat
      have h6 : b6 = failB e3 ((x.toNat : Int) != 0) := by
        rw [HB6.out]
        unfold rcmpB
        congr 1
        rw [Bool.eq_iff_iff]
        simp only [decide_eq_true_eq, bne_iff_ne, ne_eq, List.cons.injEq, and_true]
        exact not_congr ⟨fun h => by subst h; rfl, fun h => byte_zero (by omega)⟩
      have H6 := Lib.hid h6
      clear h6
      go_wp2_with (go_at_call 58; refine (HFB.out _ ((x.toNat : Int) != 0) G11.out.1.cur).mono ?_; rintro e w12 ⟨rfl, hc, ho⟩; have G12 := Lib.hid (G11.out.1.step hc ho); clear hc ho)
      all_goals
        go_meet
        rw [H6.out]
        exact G12.out
  case rest =>
    have G14 := Lib.hid hcut
    have hq10 := G14.out.sv.b.lt
    have hr10 := G14.out.cur.rlt
    have hgr := G14.out.hgr
    have hgq := G14.out.hg
    clear hcut G11 HC P9 HB6 hcz
    have hy5 := HY4.out
    clear HY4
    unfold rgcX at hy5
    have hX := rextsC_c q0 _ (fun k => q0 < k) { s1 with ses := v.1, suites := u.1 } r g b l3 b6 ⟨_, G14.out.sv, fun _ => ⟨rfl, rfl, rfl⟩, fun _ => ⟨⟨rfl, rfl, rfl⟩, rfl, rfl, rfl⟩⟩ (fun h => Nat.lt_irrefl _ h) G14.out.cur (by omega) (by omega) hgq (by omega) (by omega)
    generalize rexS { s1 with ses := v.1, suites := u.1 } l3 b6 = x at *
    have HX := Lib.hid hX
    have HY5 := Lib.hid hy5
    clear hX hy5
    go_upto_region 11 with (go_at_call 62; refine HX.out.mono ?_; rintro e w11 ⟨rfl, ⟨z4, hsv⟩, hc, ho⟩; have G15 := Lib.hid (show RcI w q0 r g b x.1 z4 x.2.1 x.2.2 w11 from ⟨hc, below_only G14.out.bel G14.out.bel.size ho (by intro k hk e; omega), G14.out.zb.only ho (by omega), hsv.mono (fun k _ hk => by omega), G14.out.hr, G14.out.hg, G14.out.hrq, G14.out.hgr⟩); clear hc hsv ho)
    clear G14 HX
    have hy5 := HY5.out
    clear HY5
    unfold gcZ at hy5
    have hdn := fun wx (h : Rf wx r g b x.2.1 x.2.2) => rdone_c r g b x.2.1 x.2.2 wx h
    generalize doneS x.2.1 x.2.2 = dd at *
    have HD := Lib.hid hdn
    clear hdn
    have hlt0 := G15.out.zb.lt
    by_cases hd : dd = 0
    · have hyy : y = (x.1, 0) := by rw [hy5, if_pos hd]
      have HYY := Lib.hid hyy
      clear hyy hy5
      subst hd
      go_wp2_with (first
        | (go_at_call 63; refine (HD.out _ G15.out.cur).mono ?_; rintro e w15 ⟨rfl, ho15⟩; have hz15 := ho15.size; have G16 := Lib.hid (show Below w.heap.size w w15 ∧ Blk w15 w.heap.size 48 (clV clZ z10) ∧ CB w15 q0 (fun k => q0 < k) x.1 z4 from ⟨below_only G15.out.bel G15.out.bel.size ho15 (fun _ _ h => h), G15.out.zb.only ho15 (fun h => h), G15.out.sv.only ho15 (fun _ h => h.elim)⟩); clear ho15)
        | (refine wpList_load_mid rfl 48 (.tmp 5) rfl q0 0 rfl (clV x.1 z4).toList _ G16.out.2.2.b.range Try.underlying48 rfl (by rw [clV_len _ _ G16.out.2.2.i.len]; exact Try.infoRc) ?_; rw [Array.toArray_toList])
        | (refine st_blk rfl 48 (.tmp 2) (.tmp 50) rfl w.heap.size (clV x.1 z4) rfl rfl 48 (clV clZ z10) G16.out.2.1 (by rw [clV_size _ _ G16.out.2.2.i.len]; exact Try.infoRc) (by rw [clV_size _ _ rfl, clV_size _ _ G16.out.2.2.i.len]) (clV_ones _ _) ?_; intro w16 hb16 ho16; have H16 := Lib.hid (And.intro hb16 ho16); clear hb16 ho16))
      refine bodyPost_ret (v := .tuple #[.agg (clV x.1 z4), .int .i64 0]) (results_ct (P := Try.prog) 2 3 Try.results19 _ _ w.heap.size _ _ _ (.int .i64 0) rfl rfl H16.out.1 Try.underlying48 rfl (by rw [clV_size _ _ G16.out.2.2.i.len]; exact Try.infoRc)) rfl ?_
      rw [HYY.out]
      exact ⟨z4, rfl, (((G16.out.2.2.i.mono (T := fun k => w.heap.size < k) (fun k _ hk => by omega)).only H16.out.2 (by intro k hk e; omega)).mono (fun k _ h => Nat.le_of_lt h)), below_only G16.out.1 G16.out.1.size H16.out.2 (by intro k hk e; omega)⟩
    · have hyy : y = (clZ, dd) := by rw [hy5, if_neg hd]
      have HYY := Lib.hid hyy
      have hdb : (dd != 0) = true := by simpa using hd
      clear hyy hy5 hd
      go_wp2_with (first
        | (go_at_call 63; refine (HD.out _ G15.out.cur).mono ?_; rintro e w15 ⟨rfl, ho15⟩; have hz15 := ho15.size; have G16 := Lib.hid (show Below w.heap.size w w15 ∧ Blk w15 w.heap.size 48 (clV clZ z10) from ⟨below_only G15.out.bel G15.out.bel.size ho15 (fun _ _ h => h), G15.out.zb.only ho15 (fun h => h)⟩); clear ho15)
        | (refine wpList_build_eq rfl 48 _ rfl (C := clV clZ z10) rfl Try.built_rcZ ?_)
        | (refine st_blk rfl 48 (.tmp 2) (.tmp 48) rfl w.heap.size (clV clZ z10) rfl rfl 48 (clV clZ z10) G16.out.2 (by rw [clV_size _ _ rfl]; exact Try.infoRc) rfl (clV_ones _ _) ?_; intro w16 hb16 ho16; have H16 := Lib.hid (And.intro hb16 ho16); clear hb16 ho16))
      refine bodyPost_ret (v := .tuple #[.agg (clV clZ z10), .int .i64 dd]) (results_ct (P := Try.prog) 2 3 Try.results19 _ _ w.heap.size _ _ _ (.int .i64 dd) rfl rfl H16.out.1 Try.underlying48 rfl (by rw [clV_size _ _ rfl]; exact Try.infoRc)) rfl ?_
      rw [HYY.out]
      exact ⟨z10, rfl, IsCl.zero _ _, below_only G16.out.1 G16.out.1.size H16.out.2 (by intro k hk e; omega)⟩
end Go.Proofs.Ytegmimnhkohaoaa
/-
  The contract of relayref08.serverExt. Condition: at most 2 to the 46th bytes.
-/
namespace Go.Proofs.Ytegmimnhkohaoaa
open Go.RowKit Go.Kx
set_option linter.unusedVariables false
set_option linter.unusedSimpArgs false
set_option maxRecDepth 100000

/-- A Server of the document in a block; its slices lie in blocks of S. -/
structure RB (w : World) (q0 : Nat) (S : Nat → Prop) (s : Sv) (z : S3) : Prop where
  b : Blk w q0 27 (svV s z)
  len : s.R.length = 32
  s1 : SlS w S z.p1 z.n1 z.c1 s.ses
  s2 : SlS w S z.p2 z.n2 z.c2 s.key
  s3 : SlS w S z.p3 z.n3 z.c3 s.cook
section
variable {w w' : World} {q0 : Nat} {S T X : Nat → Prop} {s : Sv} {z : S3}
theorem RB.only (h : RB w q0 S s z) (ho : Only X w w') (hX : ∀ k, X k → ¬ S k ∧ k ≠ q0) : RB w' q0 S s z :=
  ⟨h.b.only ho (fun hx => (hX _ hx).2 rfl), h.len, h.s1.only ho (fun k hk hx => (hX k hx).1 hk), h.s2.only ho (fun k hk hx => (hX k hx).1 hk), h.s3.only ho (fun k hk hx => (hX k hx).1 hk)⟩
theorem RB.mono (h : RB w q0 S s z) (hT : ∀ k, k < w.heap.size → S k → T k) : RB w q0 T s z := ⟨h.b, h.len, h.s1.mono hT, h.s2.mono hT, h.s3.mono hT⟩
theorem RB.cell (h : RB w q0 S s z) (k : Nat) : w.cell? ⟨q0, 32 + k, none⟩ = (cellsL s z)[k]? := by
  rw [h.b.c, svV_cells, List.getElem?_toArray, List.getElem?_append_right (by simp [h.len])]
  simp [h.len]
theorem RB.put (h : RB w q0 S s z) (hq : ¬ S q0) (k : Nat) (v : Value) (s' : Sv) (z' : S3) (hL : (cellsL s z).set k v = cellsL s' z') (hR : s'.R = s.R)
    (h1 : SlS w S z'.p1 z'.n1 z'.c1 s'.ses) (h2 : SlS w S z'.p2 z'.n2 z'.c2 s'.key) (h3 : SlS w S z'.p3 z'.n3 z'.c3 s'.cook) : RB (w.setCell ⟨q0, 32 + k, none⟩ v) q0 S s' z' := by
  have ho : Only (· = q0) w (w.setCell ⟨q0, 32 + k, none⟩ v) := (Only.refl (fun k => k = q0) w).setCell _ _ (.inl rfl)
  refine ⟨?_, by rw [hR]; exact h.len, h1.only ho (fun x hx e => hq (e ▸ hx)), h2.only ho (fun x hx e => hq (e ▸ hx)), h3.only ho (fun x hx e => hq (e ▸ hx))⟩
  have hb := h.b
  unfold Blk at *
  rw [svV_cells, hR, ← hL]
  rw [svV_cells] at hb
  have e : ((s.R.map B8 ++ cellsL s z).toArray.setIfInBounds (32 + k) v) = (s.R.map B8 ++ (cellsL s z).set k v).toArray := by
    rw [List.setIfInBounds_toArray]
    congr 1
    rw [List.set_append, if_neg (by simp [h.len])]
    simp [h.len]
  rw [← e]
  simp [World.setCell, Array.getElem?_modify, hb]
end
theorem ext_newS {w : World} {q0 gb c : Nat} {S : Nat → Prop} {st : Sv} {z : S3} {p : Option Addr} {s : List UInt8} (hA : RB w q0 S st z) (hO : Own w gb (.slice p s.length c) s) (hgb : gb ≠ q0) (gx : Nat) (hgx : gx < w.heap.size) (hgx0 : gx ≠ q0) :
    ∃ g r w1, r = w.heap.size ∧ w1 = w.alloc (.cells #[.slice p s.length c, .int .i64 0, .int .i64 0] 109) ∧ w1.heap.size = w.heap.size + 1 ∧ g ≠ q0 ∧ r ≠ q0 ∧ g < w1.heap.size ∧ Rf w1 r g s s 0 ∧ Below w.heap.size w w1 ∧ RB w1 q0 (fun k => S k ∧ k < w.heap.size) st z := by
  obtain ⟨pO, cO, heO, hlO, hcO, hrO, hpO, haO⟩ := hO.form
  cases heO
  have hq0 := hA.b.lt
  have hB : Below w.heap.size w (w.alloc (.cells #[.slice p s.length c, .int .i64 0, .int .i64 0] 109)) := (Below.refl _ _).alloc (Nat.le_refl _) _
  have hz := World.size_alloc w (.cells #[.slice p s.length c, .int .i64 0, .int .i64 0] 109)
  have hA1 := (hA.mono (T := fun k => S k ∧ k < w.heap.size) (fun k hk h => ⟨h, hk⟩)).only (Only.of_below (r := fun _ => False) hB) (fun _ h => h.elim)
  have hbx := Box3.new w 109 (.slice p s.length c) (.int .i64 0) (.int .i64 0)
  cases p with
  | none =>
    have hs : s = [] := hrO.none_nil
    exact ⟨gx, w.heap.size, _, rfl, rfl, hz, hgx0, by omega, by omega, ⟨by omega, by omega, none, s.length, c, 0, rfl, Nat.zero_le _, rfl, hbx, by rw [hs]; exact Rd.nil _ _ _, hlO, hcO, hpO, fun x hx => by cases hx⟩, hB, hA1⟩
  | some x =>
    obtain ⟨h1, h2⟩ := haO x rfl
    subst h1
    exact ⟨gb, w.heap.size, _, rfl, rfl, hz, hgb, by omega, by omega, ⟨by omega, by omega, some ⟨gb, 0, none⟩, s.length, c, 0, rfl, Nat.zero_le _, rfl, hbx, hrO.below hB, hlO, hcO, hpO, fun x hx => by cases hx; exact ⟨rfl, rfl⟩⟩, hB, hA1⟩

/-- What serverExt makes of a Server, and whether it can be. -/
def rsrvF (st : Sv) (kind : Int) (s : List UInt8) : Sv × Bool :=
  if kind = 43 then ({ st with ver := (rU s 0 2).1 }, doneB (rU s 0 2).2.1 (rU s 0 2).2.2)
  else if kind = 51 then
    (if st.retry then ({ st with grp := (rU s 0 2).1 }, doneB (rU s 0 2).2.1 (failB (rU s 0 2).2.2 ((rU s 0 2).1 == 0)))
    else ({ st with grp := (rU s 0 2).1, key := (vecS (rU s 0 2).2.1 (rU s 0 2).2.2 2 1 64).1 }, doneB (vecS (rU s 0 2).2.1 (rU s 0 2).2.2 2 1 64).2.1 (failB (vecS (rU s 0 2).2.1 (rU s 0 2).2.2 2 1 64).2.2 ((rU s 0 2).1 == 0))))
  else if kind = 44 then ({ st with cook := (vecS s (failB 0 (!st.retry)) 2 1 64).1 }, doneB (vecS s (failB 0 (!st.retry)) 2 1 64).2.1 (vecS s (failB 0 (!st.retry)) 2 1 64).2.2)
  else if kind = 41 then ({ st with psk := (rU s (failB 0 st.retry) 2).1 }, doneB (rU s (failB 0 st.retry) 2).2.1 (rU s (failB 0 st.retry) 2).2.2)
  else (st, true)
/-- What the call leaves. -/
def RseR (q0 : Nat) (S : Nat → Prop) (w : World) (y : Sv × Bool) (e : Ending) (w' : World) : Prop := e = .returned (.bool y.2) ∧ (∃ z, RB w' q0 (fun k => S k ∨ w.heap.size ≤ k) y.1 z) ∧ Only (· = q0) w w'

set_option maxHeartbeats 4000000 in
theorem rse43 (q0 : Nat) (w : World) (S : Nat → Prop) (st : Sv) (z : S3) (gb : Nat) (p : Option Addr) (c : Nat) (s : List UInt8) (hA : RB w q0 S st z) (hS0 : ¬ S q0) (hO : Own w gb (.slice p s.length c) s) (hgb : gb ≠ q0) (gx : Nat) (hgx : gx < w.heap.size) (hgx0 : gx ≠ q0) (hl : s.length ≤ 140737488355328) : Calls Try.prog 105 #[rp q0, .int .i64 43, .slice p s.length c] w (RseR q0 S w (rsrvF st 43 s)) := by
  have hF : rsrvF st 43 s = ({ st with ver := (rU s 0 2).1 }, doneB (rU s 0 2).2.1 (rU s 0 2).2.2) := rfl
  rw [hF]
  clear hF
  obtain ⟨g, r, w1, hr, hw1, hz1, hgq, hrq, hgl, hRf, hB1, hA1⟩ := ext_newS hA hO hgb gx hgx hgx0
  have HU := Lib.hid (fun wx (h : Rf wx r g s s 0) => rfu_c r g s s 0 2 wx h hl)
  generalize rU s 0 2 = u at *
  have hlt := hA.b.lt
  have HA := Lib.hid (And.intro hA1 (And.intro hRf hB1))
  clear hA hA1 hO hRf hB1
  go_enter Try.func105, Try.ntmps105
  go_upto_region 2 with (fail)
  rw [← hw1, ← hr]
  have hrge : w.heap.size ≤ r := by omega
  have hrlt : r < w1.heap.size := by omega
  have hwz : w.heap.size < w1.heap.size := by omega
  clear hw1 hr hz1
  go_wp2_with (first
    | (go_at_call 57; refine (HU.out _ HA.out.2.1).mono ?_; rintro e w2 ⟨rfl, hc, ho⟩; have hA2 := HA.out.1.only ho (fun k hk => by subst hk; exact ⟨fun h => by omega, hrq⟩); have c34 := hA2.cell 2; have f34 := hA2.b.fr 34; have hw := hA2.mono (T := fun k => S k ∨ w.heap.size ≤ k) (fun _ _ h => .inl h.1); have hp := hw.put (by rintro (h | h); exact hS0 h; omega) 2 (.int .i64 u.1) { st with ver := u.1 } z rfl rfl hw.s1 hw.s2 hw.s3; have ho3 : Only (· = q0) w2 (w2.setCell ⟨q0, 34, none⟩ (.int .i64 u.1)) := (Only.refl (fun k => k = q0) w2).setCell _ _ (.inl rfl); have H3 := Lib.hid (And.intro hp (And.intro (hc.only ho3 hrq hgq) (((Only.of_below (r := fun k => k = q0) HA.out.2.2).trans ho (fun _ h => h) (fun k hk e => by omega)).then ho3))); clear hA2 hw hp ho ho3 hc)
    | (go_at_call 63; refine (rdone_c r g s u.2.1 u.2.2 _ H3.out.2.1).mono ?_; rintro e w4 ⟨rfl, ho4⟩))
  go_ret
  exact ⟨congrArg Ending.returned (congrArg Value.bool done_eq), ⟨_, H3.out.1.only ho4 (fun _ h => h.elim)⟩, H3.out.2.2.then (ho4.mono (fun _ _ h => h.elim))⟩
set_option maxHeartbeats 4000000 in
theorem rse41 (q0 : Nat) (w : World) (S : Nat → Prop) (st : Sv) (z : S3) (gb : Nat) (p : Option Addr) (c : Nat) (s : List UInt8) (hA : RB w q0 S st z) (hS0 : ¬ S q0) (hO : Own w gb (.slice p s.length c) s) (hgb : gb ≠ q0) (gx : Nat) (hgx : gx < w.heap.size) (hgx0 : gx ≠ q0) (hl : s.length ≤ 140737488355328) : Calls Try.prog 105 #[rp q0, .int .i64 41, .slice p s.length c] w (RseR q0 S w (rsrvF st 41 s)) := by
  obtain ⟨g, r, w1, hr, hw1, hz1, hgq, hrq, hgl, hRf, hB1, hA1⟩ := ext_newS hA hO hgb gx hgx hgx0
  have hF : rsrvF st 41 s = ({ st with psk := (rU s (failB 0 st.retry) 2).1 }, doneB (rU s (failB 0 st.retry) 2).2.1 (rU s (failB 0 st.retry) 2).2.2) := rfl
  rw [hF]
  clear hF
  have c37' := hA1.cell 5
  simp only [cellsL, List.getElem?_cons_succ, List.getElem?_cons_zero, Nat.reduceAdd] at c37'
  obtain ⟨re, hre⟩ : ∃ re, re = st.retry := ⟨_, rfl⟩
  rw [← hre] at c37'
  have HRE := Lib.hid hre
  clear hre
  have HFL := Lib.hid (fun wx (h : Rf wx r g s s 0) => (HRE.out ▸ rfail_c r g s s 0 re wx h : Calls Try.prog 58 #[rp r, .bool re] wx (RfR wx r g s (s, failB 0 st.retry))))
  have HU := Lib.hid (fun wx (h : Rf wx r g s s (failB 0 st.retry)) => rfu_c r g s s (failB 0 st.retry) 2 wx h hl)
  generalize failB 0 st.retry = bq at *
  generalize rU s bq 2 = u at *
  have hlt := hA.b.lt
  have HA := Lib.hid (And.intro hA1 (And.intro hRf hB1))
  clear hA hA1 hO hRf hB1
  go_enter Try.func105, Try.ntmps105
  go_upto_region 2 with (fail)
  rw [← hw1, ← hr]
  have hrge : w.heap.size ≤ r := by omega
  have hrlt : r < w1.heap.size := by omega
  have hwz : w.heap.size < w1.heap.size := by omega
  clear hw1 hr hz1
  go_wp2_with (first
    | (go_at_call 58; refine (HFL.out _ HA.out.2.1).mono ?_; rintro e w1' ⟨rfl, hc0, ho0⟩; have H1 := Lib.hid (And.intro (HA.out.1.only ho0 (fun k hk => by subst hk; exact ⟨fun h => by omega, hrq⟩)) (And.intro hc0 ho0)); have hz0 := ho0.size; clear hc0 ho0)
    | (go_at_call 57; refine (HU.out _ H1.out.2.1).mono ?_; rintro e w2 ⟨rfl, hc, ho⟩; have hA2 := H1.out.1.only ho (fun k hk => by subst hk; exact ⟨fun h => by omega, hrq⟩); have c39 := hA2.cell 7; have f39 := hA2.b.fr 39; have hw := hA2.mono (T := fun k => S k ∨ w.heap.size ≤ k) (fun _ _ h => .inl h.1); have hp := hw.put (by rintro (h | h); exact hS0 h; omega) 7 (.int .i64 u.1) { st with psk := u.1 } z rfl rfl hw.s1 hw.s2 hw.s3; have ho3 : Only (· = q0) w2 (w2.setCell ⟨q0, 39, none⟩ (.int .i64 u.1)) := (Only.refl (fun k => k = q0) w2).setCell _ _ (.inl rfl); have H3 := Lib.hid (And.intro hp (And.intro (hc.only ho3 hrq hgq) (((Only.of_below (r := fun k => k = q0) HA.out.2.2).trans (H1.out.2.2.then ho) (fun _ h => h) (fun k hk e => by omega)).then ho3))); clear hA2 hw hp ho ho3 hc)
    | (go_at_call 63; refine (rdone_c r g s u.2.1 u.2.2 _ H3.out.2.1).mono ?_; rintro e w4 ⟨rfl, ho4⟩))
  go_ret
  exact ⟨congrArg Ending.returned (congrArg Value.bool done_eq), ⟨_, H3.out.1.only ho4 (fun _ h => h.elim)⟩, H3.out.2.2.then (ho4.mono (fun _ _ h => h.elim))⟩

set_option maxHeartbeats 4000000 in
theorem rse44 (q0 : Nat) (w : World) (S : Nat → Prop) (st : Sv) (z : S3) (gb : Nat) (p : Option Addr) (c : Nat) (s : List UInt8) (hA : RB w q0 S st z) (hS0 : ¬ S q0) (hO : Own w gb (.slice p s.length c) s) (hgb : gb ≠ q0) (gx : Nat) (hgx : gx < w.heap.size) (hgx0 : gx ≠ q0) (hl : s.length ≤ 140737488355328) : Calls Try.prog 105 #[rp q0, .int .i64 44, .slice p s.length c] w (RseR q0 S w (rsrvF st 44 s)) := by
  obtain ⟨g, r, w1, hr, hw1, hz1, hgq, hrq, hgl, hRf, hB1, hA1⟩ := ext_newS hA hO hgb gx hgx hgx0
  have hF : rsrvF st 44 s = ({ st with cook := (vecS s (failB 0 (!st.retry)) 2 1 64).1 }, doneB (vecS s (failB 0 (!st.retry)) 2 1 64).2.1 (vecS s (failB 0 (!st.retry)) 2 1 64).2.2) := rfl
  rw [hF]
  clear hF
  have c37' := hA1.cell 5
  simp only [cellsL, List.getElem?_cons_succ, List.getElem?_cons_zero, Nat.reduceAdd] at c37'
  obtain ⟨re, hre⟩ : ∃ re, re = st.retry := ⟨_, rfl⟩
  rw [← hre] at c37'
  have HRE := Lib.hid hre
  clear hre
  have HFL := Lib.hid (fun wx (h : Rf wx r g s s 0) => (HRE.out ▸ rfail_c r g s s 0 (!re) wx h : Calls Try.prog 58 #[rp r, .bool (!re)] wx (RfR wx r g s (s, failB 0 (!st.retry)))))
  have HU := Lib.hid (fun wx (h : Rf wx r g s s (failB 0 (!st.retry))) => rvector_c r g s s (failB 0 (!st.retry)) 2 1 64 wx h hl)
  generalize failB 0 (!st.retry) = bq at *
  generalize vecS s bq 2 1 64 = u at *
  have hlt := hA.b.lt
  have HA := Lib.hid (And.intro hA1 (And.intro hRf hB1))
  clear hA hA1 hO hRf hB1
  go_enter Try.func105, Try.ntmps105
  go_upto_region 2 with (fail)
  rw [← hw1, ← hr]
  have hrge : w.heap.size ≤ r := by omega
  have hrlt : r < w1.heap.size := by omega
  have hwz : w.heap.size < w1.heap.size := by omega
  clear hw1 hr hz1
  go_wp2_with (first
    | (go_at_call 58; refine (HFL.out _ HA.out.2.1).mono ?_; rintro e w1' ⟨rfl, hc0, ho0⟩; have H1 := Lib.hid (And.intro (HA.out.1.only ho0 (fun k hk => by subst hk; exact ⟨fun h => by omega, hrq⟩)) (And.intro hc0 ho0)); have hz0 := ho0.size; clear hc0 ho0)
    | (go_at_call 60; refine (HU.out _ H1.out.2.1).mono ?_; rintro e w2 ⟨g', p1, c1, rfl, hg', hO1, hc, ho⟩; have hA2 := H1.out.1.only ho (fun k hk => by subst hk; exact ⟨fun h => by omega, hrq⟩); have c38 := hA2.cell 6; have f38 := hA2.b.fr 38; have hw := hA2.mono (T := fun k => S k ∨ w.heap.size ≤ k) (fun _ _ h => .inl h.1); have hp := hw.put (by rintro (h | h); exact hS0 h; omega) 6 (.slice p1 u.1.length c1) { st with cook := u.1 } { z with p3 := p1, n3 := u.1.length, c3 := c1 } rfl rfl hw.s1 hw.s2 (SlS.of_own hO1 rfl (.inr (by omega))); have ho3 : Only (· = q0) w2 (w2.setCell ⟨q0, 38, none⟩ (.slice p1 u.1.length c1)) := (Only.refl (fun k => k = q0) w2).setCell _ _ (.inl rfl); have H3 := Lib.hid (And.intro hp (And.intro (hc.only ho3 hrq hgq) (((Only.of_below (r := fun k => k = q0) HA.out.2.2).trans (H1.out.2.2.then ho) (fun _ h => h) (fun k hk e => by omega)).then ho3))); clear hA2 hw hp ho ho3 hc hO1)
    | (go_at_call 63; refine (rdone_c r g s u.2.1 u.2.2 _ H3.out.2.1).mono ?_; rintro e w4 ⟨rfl, ho4⟩))
  go_ret
  exact ⟨congrArg Ending.returned (congrArg Value.bool done_eq), ⟨_, H3.out.1.only ho4 (fun _ h => h.elim)⟩, H3.out.2.2.then (ho4.mono (fun _ _ h => h.elim))⟩
set_option maxHeartbeats 4000000 in
theorem rse51 (q0 : Nat) (w : World) (S : Nat → Prop) (st : Sv) (z : S3) (gb : Nat) (p : Option Addr) (c : Nat) (s : List UInt8) (hA : RB w q0 S st z) (hS0 : ¬ S q0) (hO : Own w gb (.slice p s.length c) s) (hgb : gb ≠ q0) (gx : Nat) (hgx : gx < w.heap.size) (hgx0 : gx ≠ q0) (hl : s.length ≤ 140737488355328) : Calls Try.prog 105 #[rp q0, .int .i64 51, .slice p s.length c] w (RseR q0 S w (rsrvF st 51 s)) := by
  obtain ⟨g, r, w1, hr, hw1, hz1, hgq, hrq, hgl, hRf, hB1, hA1⟩ := ext_newS hA hO hgb gx hgx hgx0
  obtain ⟨re, hre⟩ : ∃ re, re = st.retry := ⟨_, rfl⟩
  have hF : rsrvF st 51 s = (if re then ({ st with grp := (rU s 0 2).1 }, doneB (rU s 0 2).2.1 (failB (rU s 0 2).2.2 ((rU s 0 2).1 == 0)))
    else ({ st with grp := (rU s 0 2).1, key := (vecS (rU s 0 2).2.1 (rU s 0 2).2.2 2 1 64).1 }, doneB (vecS (rU s 0 2).2.1 (rU s 0 2).2.2 2 1 64).2.1 (failB (vecS (rU s 0 2).2.1 (rU s 0 2).2.2 2 1 64).2.2 ((rU s 0 2).1 == 0)))) := by rw [hre]; rfl
  rw [hF]
  clear hF
  have HU := Lib.hid (fun wx (h : Rf wx r g s s 0) => rfu_c r g s s 0 2 wx h hl)
  generalize rU s 0 2 = u at *
  obtain ⟨a, l1, e1⟩ := u
  simp only at HU ⊢
  have HV := Lib.hid (fun wx (h : Rf wx r g s l1 e1) => rvector_c r g s l1 e1 2 1 64 wx h hl)
  generalize vecS l1 e1 2 1 64 = v at *
  have HRE := Lib.hid hre
  clear hre
  have hlt := hA.b.lt
  have HA := Lib.hid (And.intro hA1 (And.intro hRf hB1))
  clear hA hA1 hO hRf hB1
  go_enter Try.func105, Try.ntmps105
  go_upto_region 2 with (fail)
  rw [← hw1, ← hr]
  have hrge : w.heap.size ≤ r := by omega
  have hrlt : r < w1.heap.size := by omega
  have hwz : w.heap.size < w1.heap.size := by omega
  clear hw1 hr hz1
  cases re
  · rw [if_neg Bool.false_ne_true]
    go_wp2_with (first
      | (go_at_call 57; refine (HU.out _ HA.out.2.1).mono ?_; rintro e w2 ⟨rfl, hc, ho⟩; have hA2 := HA.out.1.only ho (fun k hk => by subst hk; exact ⟨fun h => by omega, hrq⟩); have c35 := hA2.cell 3; have f35 := hA2.b.fr 35; have hw := hA2.mono (T := fun k => (S k ∧ k < w.heap.size) ∨ r < k) (fun _ _ h => .inl h); have hp := hw.put (by rintro (h | h); exact hS0 h.1; omega) 3 (.int .i64 a) { st with grp := a } z rfl rfl hw.s1 hw.s2 hw.s3; have ho3 : Only (· = q0) w2 (w2.setCell ⟨q0, 35, none⟩ (.int .i64 a)) := (Only.refl (fun k => k = q0) w2).setCell _ _ (.inl rfl); have d35 : (w2.setCell ⟨q0, 35, none⟩ (.int .i64 a)).cell? ⟨q0, 35, none⟩ = some (.int .i64 a) := hp.cell 3; have d37 : (w2.setCell ⟨q0, 35, none⟩ (.int .i64 a)).cell? ⟨q0, 37, none⟩ = some (.bool false) := (hp.cell 5).trans (congrArg (fun b => some (Value.bool b)) HRE.out.symm); have H3 := Lib.hid (And.intro hp (And.intro (hc.only ho3 hrq hgq) (((Only.of_below (r := fun k => k = q0) HA.out.2.2).trans ho (fun _ h => h) (fun k hk e => by omega)).then ho3))); have hz2 := ho.size; have hz3 := ho3.size; clear hA2 hw hp ho ho3 hc)
      | (go_at_call 60; refine (HV.out _ H3.out.2.1).mono ?_; rintro e w5 ⟨g', p1, c1, rfl, hg', hO1, hc, ho⟩; have hz5 := ho.size; have hw := H3.out.1.only ho (fun k hk => by subst hk; exact ⟨by rintro (h | h) <;> omega, hrq⟩); have c36 := hw.cell 4; have f36 := hw.b.fr 36; have hp := hw.put (by rintro (h | h); exact hS0 h.1; omega) 4 (.slice p1 v.1.length c1) { st with grp := a, key := v.1 } { z with p2 := p1, n2 := v.1.length, c2 := c1 } rfl rfl hw.s1 (SlS.of_own hO1 rfl (.inr (by omega))) hw.s3; have ho6 : Only (· = q0) w5 (w5.setCell ⟨q0, 36, none⟩ (.slice p1 v.1.length c1)) := (Only.refl (fun k => k = q0) w5).setCell _ _ (.inl rfl); have e35 : (w5.setCell ⟨q0, 36, none⟩ (.slice p1 v.1.length c1)).cell? ⟨q0, 35, none⟩ = some (.int .i64 a) := hp.cell 3; have H6 := Lib.hid (And.intro hp (And.intro (hc.only ho6 hrq hgq) ((H3.out.2.2.trans ho (fun _ h => h) (fun k hk e => by omega)).then ho6))); have hz6 := ho6.size; clear hw hp ho ho6 hc hO1)
      | (go_at_call 58; refine (rfail_c r g s v.2.1 v.2.2 (a == 0) _ H6.out.2.1).mono ?_; rintro e w7 ⟨rfl, hc7, ho7⟩; have H7 := Lib.hid (And.intro (H6.out.1.only ho7 (fun k hk => by subst hk; exact ⟨by rintro (h | h) <;> omega, hrq⟩)) (And.intro hc7 (H6.out.2.2.trans ho7 (fun _ h => h) (fun k hk e => by omega)))); clear hc7 ho7)
      | (go_at_call 63; refine (rdone_c r g s v.2.1 _ _ H7.out.2.1).mono ?_; rintro e w8 ⟨rfl, ho8⟩))
    go_ret
    exact ⟨congrArg Ending.returned (congrArg Value.bool done_eq), ⟨_, (H7.out.1.only ho8 (fun _ h => h.elim)).mono (fun k _ h => by rcases h with h | h; exact .inl h.1; exact .inr (by omega))⟩, H7.out.2.2.then (ho8.mono (fun _ _ h => h.elim))⟩
  · rw [if_pos rfl]
    go_wp2_with (first
      | (go_at_call 57; refine (HU.out _ HA.out.2.1).mono ?_; rintro e w2 ⟨rfl, hc, ho⟩; have hA2 := HA.out.1.only ho (fun k hk => by subst hk; exact ⟨fun h => by omega, hrq⟩); have c35 := hA2.cell 3; have f35 := hA2.b.fr 35; have hw := hA2.mono (T := fun k => (S k ∧ k < w.heap.size) ∨ r < k) (fun _ _ h => .inl h); have hp := hw.put (by rintro (h | h); exact hS0 h.1; omega) 3 (.int .i64 a) { st with grp := a } z rfl rfl hw.s1 hw.s2 hw.s3; have ho3 : Only (· = q0) w2 (w2.setCell ⟨q0, 35, none⟩ (.int .i64 a)) := (Only.refl (fun k => k = q0) w2).setCell _ _ (.inl rfl); have d35 : (w2.setCell ⟨q0, 35, none⟩ (.int .i64 a)).cell? ⟨q0, 35, none⟩ = some (.int .i64 a) := hp.cell 3; have d37 : (w2.setCell ⟨q0, 35, none⟩ (.int .i64 a)).cell? ⟨q0, 37, none⟩ = some (.bool true) := (hp.cell 5).trans (congrArg (fun b => some (Value.bool b)) HRE.out.symm); have H3 := Lib.hid (And.intro hp (And.intro (hc.only ho3 hrq hgq) (((Only.of_below (r := fun k => k = q0) HA.out.2.2).trans ho (fun _ h => h) (fun k hk e => by omega)).then ho3))); have hz2 := ho.size; have hz3 := ho3.size; clear hA2 hw hp ho ho3 hc)
      | (go_at_call 58; refine (rfail_c r g s l1 e1 (a == 0) _ H3.out.2.1).mono ?_; rintro e w7 ⟨rfl, hc7, ho7⟩; have H7 := Lib.hid (And.intro (H3.out.1.only ho7 (fun k hk => by subst hk; exact ⟨by rintro (h | h) <;> omega, hrq⟩)) (And.intro hc7 (H3.out.2.2.trans ho7 (fun _ h => h) (fun k hk e => by omega)))); clear hc7 ho7)
      | (go_at_call 63; refine (rdone_c r g s l1 _ _ H7.out.2.1).mono ?_; rintro e w8 ⟨rfl, ho8⟩))
    go_ret
    exact ⟨congrArg Ending.returned (congrArg Value.bool done_eq), ⟨_, (H7.out.1.only ho8 (fun _ h => h.elim)).mono (fun k _ h => by rcases h with h | h; exact .inl h.1; exact .inr (by omega))⟩, H7.out.2.2.then (ho8.mono (fun _ _ h => h.elim))⟩

set_option maxHeartbeats 4000000 in
theorem rseOther (q0 : Nat) (w : World) (S : Nat → Prop) (st : Sv) (z : S3) (gb : Nat) (p : Option Addr) (c : Nat) (s : List UInt8) (hA : RB w q0 S st z) (hS0 : ¬ S q0) (hO : Own w gb (.slice p s.length c) s) (hgb : gb ≠ q0) (gx : Nat) (hgx : gx < w.heap.size) (hgx0 : gx ≠ q0) (hl : s.length ≤ 140737488355328) (kind : Int) (h1 : kind ≠ 43) (h2 : kind ≠ 51) (h3 : kind ≠ 44) (h4 : kind ≠ 41) : Calls Try.prog 105 #[rp q0, .int .i64 kind, .slice p s.length c] w (RseR q0 S w (rsrvF st kind s)) := by
  have hF : rsrvF st kind s = (st, true) := by unfold rsrvF; rw [if_neg h1, if_neg h2, if_neg h3, if_neg h4]
  rw [hF]
  clear hF
  have b1 : (kind == 43) = false := by simpa using h1
  have b2 : (kind == 51) = false := by simpa using h2
  have b3 : (kind == 44) = false := by simpa using h3
  have b4 : (kind == 41) = false := by simpa using h4
  obtain ⟨g, r, w1, hr, hw1, hz1, hgq, hrq, hgl, hRf, hB1, hA1⟩ := ext_newS hA hO hgb gx hgx hgx0
  have hlt := hA.b.lt
  have HA := Lib.hid (And.intro hA1 (And.intro hRf hB1))
  clear hA hA1 hO hRf hB1 h1 h2 h3 h4
  go_enter Try.func105, Try.ntmps105
  go_upto_region 2 with (fail)
  rw [← hw1, ← hr]
  have hrge : w.heap.size ≤ r := by omega
  have hrlt : r < w1.heap.size := by omega
  have hwz : w.heap.size < w1.heap.size := by omega
  clear hw1 hr hz1
  go_wp2
  go_ret
  exact ⟨rfl, ⟨_, HA.out.1.mono (fun _ _ h => .inl h.1)⟩, Only.of_below HA.out.2.2⟩

theorem rserver_ext (q0 : Nat) (w : World) (S : Nat → Prop) (st : Sv) (z : S3) (gb : Nat) (p : Option Addr) (c : Nat) (s : List UInt8) (kind : Int) (hA : RB w q0 S st z) (hS0 : ¬ S q0) (hO : Own w gb (.slice p s.length c) s) (hgb : gb ≠ q0) (gx : Nat) (hgx : gx < w.heap.size) (hgx0 : gx ≠ q0) (hl : s.length ≤ 140737488355328) :
    Calls Try.prog 105 #[rp q0, .int .i64 kind, .slice p s.length c] w (RseR q0 S w (rsrvF st kind s)) := by
  by_cases h1 : kind = 43
  · subst h1; exact rse43 q0 w S st z gb p c s hA hS0 hO hgb gx hgx hgx0 hl
  by_cases h2 : kind = 51
  · subst h2; exact rse51 q0 w S st z gb p c s hA hS0 hO hgb gx hgx hgx0 hl
  by_cases h3 : kind = 44
  · subst h3; exact rse44 q0 w S st z gb p c s hA hS0 hO hgb gx hgx hgx0 hl
  by_cases h4 : kind = 41
  · subst h4; exact rse41 q0 w S st z gb p c s hA hS0 hO hgb gx hgx hgx0 hl
  exact rseOther q0 w S st z gb p c s hA hS0 hO hgb gx hgx hgx0 hl kind h1 h2 h3 h4
end Go.Proofs.Ytegmimnhkohaoaa
/-
  The contract of relayref08.exts at a Server. Condition: at most 2 to the 46th bytes.
-/
namespace Go.Proofs.Ytegmimnhkohaoaa
open Go.RowKit Go.Kx
set_option linter.unusedVariables false
set_option linter.unusedSimpArgs false
set_option maxRecDepth 100000

/-- One extension of a Server. -/
def rsrvG (st : Sv) (kind : Int) (s : List UInt8) (last : Bool) : Sv × Bool := rsrvF st kind s
/-- A Server of the document while its extensions are read. -/
def RSt (q0 : Nat) (w : World) (S : Nat → Prop) (had : List Int) (st : Sv) : Prop := ∃ z, RB w q0 S st z
section
variable {w w' : World} {q0 : Nat} {S T X : Nat → Prop} {had : List Int} {st : Sv}
theorem RSt.only (h : RSt q0 w S had st) (ho : Only X w w') (hX : ∀ k, X k → ¬ S k ∧ k ≠ q0) : RSt q0 w' S had st := by
  obtain ⟨z, h1⟩ := h
  exact ⟨z, h1.only ho hX⟩
theorem RSt.mono (h : RSt q0 w S had st) (hT : ∀ k, k < w.heap.size → S k → T k) : RSt q0 w T had st := by
  obtain ⟨z, h1⟩ := h
  exact ⟨z, h1.mono hT⟩
theorem RSt.lt (h : RSt q0 w S had st) : q0 < w.heap.size := by
  obtain ⟨z, h1⟩ := h
  exact h1.b.lt
end
/-- What the loop keeps. -/
structure ES (w w3 : World) (q0 r2 gi r g M : Nat) (S : Nat → Prop) (B b s1 : List UInt8) (b1 : Int) (gh : Nat) (had : List Int) (p : Option Addr) (c : Nat) (st : Sv) (t : List UInt8) (bad : Int) (wx : World) : Prop where
  at' : RSt q0 wx (fun k => (S k ∧ k < w.heap.size) ∨ (M ≤ k ∧ k ≠ gh ∧ had ≠ [])) had st
  inn : Rf wx r2 gi B t bad
  out : Rf wx r g b s1 b1
  row : Row wx 3 1 gh (.slice p had.length c) had.length (had.map I64)
  hg : M ≤ gh
  nil : had = [] → p = none ∧ c = 0
  ho : Only (fun k => k = r2 ∨ k = q0) w3 wx
theorem ES.quiet {w w3 wx wy : World} {q0 r2 gi r g M gh c : Nat} {S : Nat → Prop} {B b s1 t : List UInt8} {b1 bad : Int} {had : List Int} {p : Option Addr} {st : Sv} (h : ES w w3 q0 r2 gi r g M S B b s1 b1 gh had p c st t bad wx) (ho : Only (fun _ => False) wx wy) : ES w w3 q0 r2 gi r g M S B b s1 b1 gh had p c st t bad wy :=
  ⟨h.at'.only ho (fun _ h => h.elim), h.inn.only ho (fun h => h) (fun h => h), h.out.only ho (fun h => h) (fun h => h), h.row.only ho (fun h => h), h.hg, h.nil, h.ho.then (ho.mono (fun _ _ h => h.elim))⟩
theorem ES.step {w w3 wx wy : World} {q0 r2 gi r g M gh c : Nat} {S : Nat → Prop} {B b s1 t t' : List UInt8} {b1 bad bad' : Int} {had : List Int} {p : Option Addr} {st : Sv} (h : ES w w3 q0 r2 gi r g M S B b s1 b1 gh had p c st t bad wx) (hr : Rf wy r2 gi B t' bad') (ho : Only (· = r2) wx wy) (h1 : r2 < M) (h2 : w.heap.size ≤ r2) (h3 : q0 ≠ r2) (h4 : r ≠ r2) (h5 : g ≠ r2) : ES w w3 q0 r2 gi r g M S B b s1 b1 gh had p c st t' bad' wy :=
  ⟨h.at'.only ho (fun k hk => by subst hk; exact ⟨by rintro (⟨_, h⟩ | ⟨h, _⟩) <;> omega, fun e => h3 e.symm⟩), hr, h.out.only ho h4 h5, h.row.only ho (by have := h.hg; omega), h.hg, h.nil, h.ho.then (ho.mono (fun _ _ h => .inl h))⟩
/-- What exts makes of a Server, and of the Reader. -/
def rexSv (st : Sv) (s : List UInt8) (bad : Int) : Sv × List UInt8 × Int :=
  let v := vecS s bad 2 0 65535
  let Y := rextsL rsrvG (v.1.length + 1) st [] v.1 0
  (Y.1, v.2.1, failB v.2.2 (decide (doneS Y.2.1 Y.2.2 ≠ 0)))
def RexSR (q0 : Nat) (S : Nat → Prop) (w : World) (r g : Nat) (b : List UInt8) (y : Sv × List UInt8 × Int) (e : Ending) (w' : World) : Prop :=
  e = .returned ret0 ∧ (∃ z, RB w' q0 (fun k => S k ∨ w.heap.size ≤ k) y.1 z) ∧ Rf w' r g b y.2.1 y.2.2 ∧ Only (fun k => k = r ∨ k = q0) w w'

set_option maxHeartbeats 8000000 in
theorem rextsS_c (q0 : Nat) (w : World) (S : Nat → Prop) (st : Sv) (r g : Nat) (b s : List UInt8) (bad : Int) (hA : RSt q0 w S [] st) (hS0 : ¬ S q0) (hR : Rf w r g b s bad) (hSr : ¬ S r) (hrq : r ≠ q0) (hgq : g ≠ q0) (hl : b.length ≤ 140737488355328) (hsb : s.length ≤ b.length) :
    Calls Try.prog 62 #[rp r, .pointer none, rp q0] w (RexSR q0 S w r g b (rexSv st s bad)) := by
  have hq0 := hA.lt
  have hrl := hR.rlt
  have hgl := hR.lt
  have hrg := hR.ne
  have hsh : (vecS s bad 2 0 65535).1.length ≤ 65535 := vecS_short s bad 2 0 65535
  have HU := Lib.hid (rvector_c r g b s bad 2 0 65535 w hR hl)
  have hX : rexSv st s bad = ((rextsL rsrvG ((vecS s bad 2 0 65535).1.length + 1) st [] (vecS s bad 2 0 65535).1 0).1, (vecS s bad 2 0 65535).2.1, failB (vecS s bad 2 0 65535).2.2 (decide (doneS (rextsL rsrvG ((vecS s bad 2 0 65535).1.length + 1) st [] (vecS s bad 2 0 65535).1 0).2.1 (rextsL rsrvG ((vecS s bad 2 0 65535).1.length + 1) st [] (vecS s bad 2 0 65535).1 0).2.2 ≠ 0))) := rfl
  rw [hX]
  clear hX
  generalize vecS s bad 2 0 65535 = v at *
  obtain ⟨B, s1, b1⟩ := v
  simp only at hsh HU ⊢
  obtain ⟨Y, hY⟩ : ∃ Y, Y = rextsL rsrvG (B.length + 1) st [] B 0 := ⟨_, rfl⟩
  rw [← hY]
  have HY := Lib.hid hY
  have HA := Lib.hid (hA.mono (T := fun k => S k ∧ k < w.heap.size) (fun k hk h => ⟨h, hk⟩))
  clear hA hR hY
  go_enter Try.func62, Try.ntmps62
  go_upto_region 1 with (go_at_call 60; refine HU.out.mono ?_; rintro e w2 ⟨g', p1, c1, rfl, hg', hO1, hc, ho⟩; have H2 := Lib.hid (And.intro hO1 (And.intro hc ho)); have hz2 := ho.size; clear hO1 hc ho)
  obtain ⟨hpn, hnc, hcm⟩ : (p1 = none → c1 = 0) ∧ B.length ≤ c1 ∧ c1 ≤ maxLen := by
    obtain ⟨p', c', he, h1, h2, _, h3, _⟩ := H2.out.1.form
    cases he
    exact ⟨h3, h1, h2⟩
  obtain ⟨gi, hgi, hgo, hRi⟩ := Rf.new (q := r) H2.out.1.rd rfl hpn (own_spot H2.out.1) hnc hcm (by omega)
  have hB3 : Below w2.heap.size w2 (w2.alloc (.cells #[.slice p1 B.length c1, .int .i64 0, .int .i64 0] 109)) := (Below.refl _ _).alloc (Nat.le_refl _) _
  have hz3 := World.size_alloc w2 (.cells #[.slice p1 B.length c1, .int .i64 0, .int .i64 0] 109)
  have hgi0 : gi ≠ q0 := by
    rcases hgo with h | ⟨o, h⟩
    · omega
    · obtain ⟨p', c', he, _, _, _, _, h3⟩ := H2.out.1.form
      cases he
      obtain ⟨h4, _⟩ := h3 _ h
      cases h4
      omega
  generalize w2.alloc (.cells #[.slice p1 B.length c1, .int .i64 0, .int .i64 0] 109) = w3 at *
  have hO3 : Only (· = r) w w3 := H2.out.2.2.then (Only.of_below hB3)
  have hE3 : ES w w3 q0 w2.heap.size gi r g w3.heap.size S B b s1 b1 w3.heap.size [] none 0 st B 0 w3 :=
    ⟨(HA.out.only hO3 (fun k hk => by subst hk; exact ⟨fun h => hSr h.1, hrq⟩)).mono (fun k _ h => .inl h), hRi, H2.out.2.1.only (Only.of_below (r := fun _ => False) hB3) (fun h => h) (fun h => h), Row.nil _ _ _ _, Nat.le_refl _, fun _ => ⟨rfl, rfl⟩, Only.refl _ _⟩
  have K3 := Lib.hid (And.intro hE3 hO3)
  obtain ⟨r2, hr2⟩ : ∃ r2, r2 = w2.heap.size := ⟨_, rfl⟩
  rw [← hr2] at K3 ⊢
  have h2a : r < r2 := by omega
  have h2b : r2 < w3.heap.size := by omega
  have h2c : gi < r2 := by omega
  have h2d : g < r2 := by omega
  have h2e : q0 < r2 := by omega
  have h2f : w.heap.size ≤ r2 := by omega
  clear hB3 hO3 hE3 hRi hgo hgi hz3 hr2 hpn hnc hcm HA H2 hz2 hg' HU
  go_upto_block 0 with (fail)
  go_cut [15] (fun _ wx => ∃ gh had p c, ES w w3 q0 r2 gi r g w3.heap.size S B b s1 b1 gh had p c Y.1 Y.2.1 Y.2.2 wx)
  case first =>
    go_wp2_with fail
    go_loopg [7, 8, 9, 10] (B.length + 1) (fun n v7 v8 v9 v10 wr => ∃ st' had t bad gh p c, v7 = .slice p had.length c ∧ ES w w3 q0 r2 gi r g w3.heap.size S B b s1 b1 gh had p c st' t bad wr ∧ rextsL rsrvG n st' had t bad = Y ∧ (bad = 0 → t.length < n) ∧ had.length + t.length ≤ B.length + (if bad = 0 then 0 else 1))
    case atStart => exact ⟨st, [], B, 0, _, none, 0, rfl, K3.out.1, HY.out.symm, fun _ => by omega, by simp⟩
    case round =>
      obtain ⟨st', had, t, bad, gh, p, c, rfl, hN, hE, hn, hl2⟩ := hrel
      have HR := Lib.hid (And.intro hN (And.intro hE (And.intro hn hl2)))
      have hwr := hN.ho.size
      have hg3 := hN.hg
      clear hN hE hn hl2
      by_cases hgo : t.length ≠ 0 ∧ bad = 0
      · obtain ⟨ht0, hbad⟩ := hgo
        have hpos : 0 < t.length := by omega
        have hposI : (0 : Int) < (t.length : Int) := by omega
        subst hbad
        have hn := HR.out.2.2.1 rfl
        have hl2 := HR.out.2.2.2
        rw [if_pos rfl] at hl2
        obtain ⟨m, rfl⟩ : ∃ m, gk = m + 1 := ⟨gk - 1, by omega⟩
        have hne : t ≠ [] := by intro h; rw [h] at ht0; exact ht0 rfl
        have hless := rU_less t 2 (by decide) hne
        have HU1 := Lib.hid (fun wx (h : Rf wx r2 gi B t 0) => rfu_c r2 gi B t 0 2 wx h (by omega))
        have hub := rU_big t 0 2
        obtain ⟨u1, hu1⟩ : ∃ u, u = rU t 0 2 := ⟨_, rfl⟩
        rw [← hu1] at HU1 hless hub
        obtain ⟨k, t1, e1⟩ := u1
        simp only at HU1 hless hub
        have HU2 := Lib.hid (fun wx (h : Rf wx r2 gi B t1 e1) => rvector_c r2 gi B t1 e1 2 0 65535 wx h (by omega))
        have hvl := vecS_left t1 e1 2 0 65535
        have hvs : (vecS t1 e1 2 0 65535).1.length ≤ 65535 := vecS_short t1 e1 2 0 65535
        have hvb := vecS_bad t1 e1 2 0 65535
        obtain ⟨u2, hu2⟩ : ∃ u, u = vecS t1 e1 2 0 65535 := ⟨_, rfl⟩
        rw [← hu2] at HU2 hvl hvs hvb
        obtain ⟨bs, t2, e2⟩ := u2
        simp only at HU2 hvl hvs hvb
        obtain ⟨b3, hb3⟩ : ∃ b3, b3 = failB e2 (decide (k ∈ had)) := ⟨_, rfl⟩
        have HB := Lib.hid (And.intro hu1.symm (And.intro hu2.symm (And.intro hb3 hne)))
        have HVB := Lib.hid hvb
        clear hu1 hu2 hb3 hne hvb
        go_upto_block 2 with (first
          | (go_at_call 103; refine (rleft_c r2 gi B t 0 _ HR.out.1.inn).mono ?_; rintro e w4 ⟨rfl, ho4⟩; have H4 := Lib.hid (HR.out.1.quiet ho4); have d2 := H4.out.inn.c2; have hz4 := ho4.size; clear ho4)
          | (go_at_call 57; refine (HU1.out _ H4.out.inn).mono ?_; rintro e w5 ⟨rfl, hc, ho⟩; have H5 := Lib.hid (H4.out.step hc ho h2b h2f (by omega) (by omega) (by omega)); have hz5 := ho.size; clear hc ho)
          | (go_at_call 60; refine (HU2.out _ H5.out.inn).mono ?_; rintro e w6 ⟨kg, kp, kc, rfl, hkg, hKO, hc, ho⟩; have H6 := Lib.hid (And.intro (H5.out.step hc ho h2b h2f (by omega) (by omega) (by omega)) hKO); have hz6 := ho.size; clear hc ho hKO))
        have hkw : w3.heap.size ≤ kg := by omega
        clear d2
        go_cut [10] (fun _ wx => ES w w3 q0 r2 gi r g w3.heap.size S B b s1 b1 gh had p c st' t2 b3 wx ∧ Own wx kg (.slice kp bs.length kc) bs)
        case first =>
          go_wp2_with fail
          go_loopw [10] (fun v10 wr => ∃ i : Nat, i ≤ had.length ∧ v10 = .int .i64 (i : Int) ∧ ES w w3 q0 r2 gi r g w3.heap.size S B b s1 b1 gh had p c st' t2 (failB e2 (decide (k ∈ had.take i))) wr ∧ Own wr kg (.slice kp bs.length kc) bs) (fun v10 _ => had.length - (intOf v10).toNat)
          case atStart => exact ⟨0, Nat.zero_le _, rfl, by rw [show failB e2 (decide (k ∈ had.take 0)) = e2 by simp [failB]]; exact H6.out.1, H6.out.2⟩
          case round =>
            obtain ⟨i, hi, rfl, hJ, hO⟩ := hrel
            have J := Lib.hid (And.intro hJ hO)
            clear hJ hO
            by_cases hlt : i < had.length
            · obtain ⟨_, _, hpe, hp0, hcell⟩ := Row.form J.out.1.row
              cases hpe
              obtain ⟨hp1, _⟩ := hp0 (by omega)
              have hci : wr.cell? ⟨gh, i, none⟩ = some (.int .i64 (had[i]'hlt)) := hcell i _ (by rw [List.getElem?_map, List.getElem?_eq_getElem hlt]; rfl)
              have hts : had.take (i + 1) = had.take i ++ [had[i]'hlt] := List.take_succ_eq_append_getElem hlt
              obtain ⟨x, hx⟩ : ∃ x, x = had[i]'hlt := ⟨_, rfl⟩
              rw [← hx] at hci hts
              have HT := Lib.hid hts
              have hpi : (0 : Int) ≤ (i : Int) := by omega
              have hpl : (i : Int) < (had.length : Int) := by omega
              have HLT := Lib.hid hlt
              clear hts hx hcell hp0
              subst hp1
              obtain ⟨xb, hxb⟩ : ∃ xb, xb = (x == k) := ⟨_, rfl⟩
              have HXB := Lib.hid hxb
              go_wp2_with (go_at_call 58; refine (rfail_c r2 gi B t2 _ (x == k) _ J.out.1.inn).mono ?_; rintro e w8 ⟨rfl, hR8, ho8⟩; have K8 := Lib.hid (And.intro (J.out.1.step hR8 ho8 h2b h2f (by omega) (by omega) (by omega)) (J.out.2.only ho8 (by omega))); clear hR8 ho8)
              go_roundw
              case rel => exact ⟨i + 1, by have := HLT.out; omega, by go_num, by rw [HT.out, ← failB_mem]; exact K8.out.1, K8.out.2⟩
              case measure => have := HLT.out; simp [intOf]; omega
            · obtain rfl : i = had.length := by omega
              go_wp2
              go_meet
              have hJ := J.out
              rw [List.take_length, ← HB.out.2.2.1] at hJ
              exact hJ
        case rest =>
          have G6 := Lib.hid hcut
          have hzc := hcut.1.ho.size
          have hilt := hcut.1.inn.rlt
          have hgh : had = [] ∨ gh < w5.heap.size := by
            by_cases h0 : had = []
            · exact .inl h0
            · obtain ⟨_, _, _, hf, _⟩ := Row.form H5.out.row
              have hl0 : 0 < had.length := List.length_pos_iff.2 h0
              exact .inr (hf hl0).2
          clear hcut H6 H5 H4
          -- the row of the kinds, by a name of its own as long as it is nil
          obtain ⟨g3, hr3, hg3', hg3c, hg3n, hg3e⟩ : ∃ g3, Row wc 3 1 g3 (.slice p had.length c) had.length (had.map I64) ∧ w3.heap.size ≤ g3 ∧ (g3 < wc.heap.size ∨ g3 = wc.heap.size) ∧ (had ≠ [] → g3 = gh) ∧ (had = [] → g3 = wc.heap.size) := by
            by_cases h0 : had = []
            · obtain ⟨e1, e2⟩ := G6.out.1.nil h0
              subst h0 e1 e2
              exact ⟨wc.heap.size, Row.nil _ _ _ _, hzc, .inr rfl, fun h => absurd rfl h, fun _ => rfl⟩
            · have h1 := G6.out.1.row
              obtain ⟨_, _, _, hf, _⟩ := Row.form h1
              have hl0 : 0 < had.length := List.length_pos_iff.2 h0
              exact ⟨gh, h1, G6.out.1.hg, .inl (hf hl0).2, fun _ => rfl, fun h => absurd h h0⟩
          have hat : RSt q0 wc (fun k => ((S k ∧ k < w.heap.size) ∨ (w3.heap.size ≤ k ∧ k ≠ g3 ∧ k < wc.heap.size))) had st' := G6.out.1.at'.mono (fun k hk h => by
            rcases h with h | ⟨h1, h2, h3⟩
            · exact .inl h
            · exact .inr ⟨h1, by rw [hg3n h3]; exact h2, hk⟩)
          have HR3 := Lib.hid (And.intro hr3 hat)
          have hba : Below wc.heap.size wc (wc.alloc (.cells #[.int .i64 k] 3)) := (Below.refl _ _).alloc (Nat.le_refl _) _
          have HBA := Lib.hid hba
          have hhl : had.length ≤ 65535 := by omega
          clear hr3 hat hba
          go_upto_region 10 with (at_builtin; refine wpList_append_row rfl _ _ 43 rfl 3 (.int .i64 0) 1 8 Try.underlying43 Try.infoInt rfl (by decide) g3 (.slice p had.length c) had.length (had.map I64) rfl (Row.only HR3.out.1 (Only.of_below (r := fun _ => False) HBA.out) (fun h => h)) ⟨wc.heap.size, 0, none⟩ 1 1 [.int .i64 k] rfl rfl (cell_one wc _ _) (by simp [Value.oneCell']) (by simp only [maxLen]; omega) (by omega) (wc.heap.size + 1) (by simp) ?_; intro g4 v2 w7 hrow hg4 hO7q; have hO7 : Only (· = g3) wc w7 := (Only.of_below (r := fun k => k = g3) HBA.out).then hO7q; have hz7 := hO7.size; obtain ⟨p5, k5, rfl, hfr, -⟩ := Row.form hrow; have H7 := Lib.hid (And.intro hrow (And.intro hO7 (hfr (by omega)))); clear hrow hO7q hO7 hfr)
          have hq03 : q0 ≠ g3 := by omega
          have hne4 : had ++ [k] ≠ [] := by simp
          have hE7 : ES w w3 q0 r2 gi r g w3.heap.size S B b s1 b1 g4 (had ++ [k]) p5 k5 st' t2 b3 w7 := by
            have hN := G6.out.1
            have hl : (had ++ [k]).length = had.length + 1 := by simp
            refine ⟨?_, hN.inn.only H7.out.2.1 (by omega) (by omega), hN.out.only H7.out.2.1 (by omega) (by omega), ?_, by rcases hg4 with h | h <;> omega, fun h => absurd h hne4, hN.ho.trans H7.out.2.1 (fun _ h => h) (fun k hk h => by omega)⟩
            · obtain ⟨z, hz1⟩ := HR3.out.2
              refine ⟨z, (hz1.only H7.out.2.1 (fun k hk => by subst hk; exact ⟨by rintro (⟨_, h⟩ | ⟨_, h, _⟩); omega; exact h rfl, fun e => hq03 e.symm⟩)).mono (fun k' hk h => ?_)⟩
              rcases h with h | ⟨h1, h2, h3⟩
              · exact .inl h
              · exact .inr ⟨h1, by rcases hg4 with h | h <;> omega, hne4⟩
            · rw [hl, List.map_append]
              exact H7.out.1
          have E7 := Lib.hid hE7
          have hown : ∃ kg', kg' ≠ q0 ∧ Own w7 kg' (.slice kp bs.length kc) bs := by
            by_cases h : kg < wc.heap.size
            · refine ⟨kg, by omega, G6.out.2.only H7.out.2.1 ?_⟩
              by_cases h2 : had = []
              · have := hg3e h2; omega
              · have h3 := hg3n h2
                rcases hgh with h0 | h0
                · exact absurd h0 h2
                · omega
            · obtain ⟨p', c', he, _, _, hr, hp, ha⟩ := G6.out.2.form
              cases he
              cases kp with
              | none =>
                have hb0 := hr.none_nil
                have hk0 := hp rfl
                subst hb0 hk0
                exact ⟨w7.heap.size, by omega, Own.nil _ _⟩
              | some a => exact absurd (ha a rfl).2 h
          obtain ⟨kg', hkq, hO7'⟩ := hown
          have hat7 : RSt q0 w7 (fun k => ((S k ∧ k < w.heap.size) ∨ (w3.heap.size ≤ k ∧ k ≠ g4 ∧ k < w7.heap.size))) had st' := (HR3.out.2.only H7.out.2.1 (fun k hk => by subst hk; exact ⟨by rintro (⟨_, h⟩ | ⟨_, h, _⟩); omega; exact h rfl, fun e => hq03 e.symm⟩)).mono (fun k' hk h => by
            rcases h with h | ⟨h1, h2, h3⟩
            · exact .inl h
            · exact .inr ⟨h1, by rcases hg4 with h | h <;> omega, by omega⟩)
          have c2 := hE7.inn.c2
          have hg4w := H7.out.2.2.2
          have HO7 := Lib.hid (And.intro hO7' hat7)
          clear hE7 hO7' hat7 G6 hg3n hg3e
          by_cases hb : b3 = 0
          · subst hb
            have hk : k ∉ had := by
              intro h
              have h1 := HB.out.2.2.1
              rw [decide_eq_true h] at h1
              unfold failB rm at h1
              rw [if_pos rfl] at h1
              by_cases he : e2 = 0
              · rw [if_pos he] at h1
                exact absurd h1 (by decide)
              · rw [if_neg he] at h1
                exact he h1.symm
            have he2 : e2 = 0 := by
              have h1 := HB.out.2.2.1
              rw [decide_eq_false hk] at h1
              exact h1.symm
            obtain ⟨last, hlast⟩ : ∃ last, last = decide (t2 = []) := ⟨_, rfl⟩
            have hl0 : ((t2.length : Int) == 0) = last := by
              rw [hlast]
              cases t2 with
              | nil => rfl
              | cons a l => simp; omega
            have hgo2 := rextsL_go rsrvG m st' had t HB.out.2.2.2 HB.out.1 HB.out.2.1 HB.out.2.2.1 rfl
            rw [← hlast] at hgo2
            have hE2 := HR.out.2.1
            rw [hgo2] at hE2
            have HE2 := Lib.hid hE2
            have HCE := Lib.hid (show Calls Try.prog 105 #[rp q0, .int .i64 k, .slice kp bs.length kc] w7 (RseR q0 (fun k => ((S k ∧ k < w.heap.size) ∨ (w3.heap.size ≤ k ∧ k ≠ g4 ∧ k < w7.heap.size))) w7 (rsrvG st' k bs last)) from by
              obtain ⟨z7, hz7'⟩ := HO7.out.2
              exact rserver_ext q0 w7 _ st' z7 kg' kp kc bs k hz7' (by rintro (⟨h, _⟩ | ⟨h, _⟩); exact hS0 h; omega) HO7.out.1 hkq r2 (by omega) (by omega) (by omega))
            have HK := Lib.hid (And.intro hk he2)
            generalize rsrvG st' k bs last = y at *
            obtain ⟨st2, ok⟩ := y
            simp only at HE2 HCE
            clear hgo2 hE2 hlast hk he2
            go_wp2_with (first
              | (go_at_call 105; refine HCE.out.mono ?_; rintro e w9 ⟨rfl, ⟨z9, hA9⟩, ho9⟩; have hN := E7.out; have E9 := Lib.hid (show ES w w3 q0 r2 gi r g w3.heap.size S B b s1 b1 g4 (had ++ [k]) p5 k5 st2 t2 0 w9 from ⟨⟨z9, hA9.mono (fun k' hk' h => by rcases h with (h | ⟨h1, h2, h3⟩) | h; exact .inl h; exact .inr ⟨h1, h2, hne4⟩; exact .inr ⟨by omega, by omega, hne4⟩)⟩, hN.inn.only ho9 (by omega) (by omega), hN.out.only ho9 (by omega) (by omega), hN.row.only ho9 (by omega), hN.hg, hN.nil, hN.ho.then (ho9.mono (fun _ _ h => .inr h))⟩); have hz9 := ho9.size; clear hA9 ho9 hN)
              | (go_at_call 58; refine (rfail_c r2 gi B t2 0 (!ok) _ E9.out.inn).mono ?_; rintro e w10 ⟨rfl, hR10, ho10⟩; have E10 := Lib.hid (E9.out.step hR10 ho10 h2b h2f (by omega) (by omega) (by omega)); clear hR10 ho10))
            have hle2 : t2.length + 1 ≤ t.length := by
              rcases hless with h | h
              · omega
              · exact absurd HK.out.2 (HVB.out h)
            go_roundg m
            case measure => omega
            case rel =>
              refine ⟨st2, had ++ [k], t2, failB 0 (!ok), g4, p5, k5, by rw [List.length_append, List.length_singleton], E10.out, HE2.out, fun _ => ?_, ?_⟩
              · omega
              · rw [List.length_append, List.length_singleton]
                split <;> omega
          · have hbn : (b3 != 0) = true := by simpa using hb
            have hbr := rextsL_break rsrvG m st' had t HB.out.2.2.2 HB.out.1 HB.out.2.1 HB.out.2.2.1 hb
            have hYA : (st', t2, b3) = Y := by rw [← HR.out.2.1, hbr]
            have HYY := Lib.hid hYA
            clear hYA hbr
            go_wp2
            go_meet
            have hYY := HYY.out
            subst hYY
            exact ⟨g4, had ++ [k], p5, k5, E7.out⟩
      · have hstop : t = [] ∨ bad ≠ 0 := by
          by_cases h : t.length = 0
          · exact .inl (List.eq_nil_of_length_eq_zero h)
          · exact .inr (fun e => hgo ⟨h, e⟩)
        have hYA : (st', t, bad) = Y := by rw [← HR.out.2.1, rextsL_stop rsrvG gk st' had t bad hstop]
        have HYY := Lib.hid hYA
        clear hYA hstop
        by_cases ht0 : t.length = 0
        case' pos =>
          have htz : ¬ (0 : Int) < (t.length : Int) := by omega
          go_wp2_with (go_at_call 103; refine (rleft_c r2 gi B t bad _ HR.out.1.inn).mono ?_; rintro e w4 ⟨rfl, ho4⟩; have H4 := Lib.hid (HR.out.1.quiet ho4); have d2 := H4.out.inn.c2; have hz4 := ho4.size; clear ho4)
        case' neg =>
          have hposI : (0 : Int) < (t.length : Int) := by omega
          have hbb : (bad == 0) = false := by
            have : bad ≠ 0 := fun e => hgo ⟨ht0, e⟩
            simpa using this
          go_wp2_with (go_at_call 103; refine (rleft_c r2 gi B t bad _ HR.out.1.inn).mono ?_; rintro e w4 ⟨rfl, ho4⟩; have H4 := Lib.hid (HR.out.1.quiet ho4); have d2 := H4.out.inn.c2; have hz4 := ho4.size; clear ho4)
        all_goals
          go_meet
          have hYY := HYY.out
          subst hYY
          exact ⟨gh, had, p, c, H4.out⟩
  case rest =>
    have G := Lib.hid hcut
    obtain ⟨dd, hdd⟩ : ∃ dd, dd = doneS Y.2.1 Y.2.2 := ⟨_, rfl⟩
    have HD := Lib.hid (fun wx (h : Rf wx r2 gi B Y.2.1 Y.2.2) => (hdd ▸ rdone_c r2 gi B Y.2.1 Y.2.2 wx h : Calls Try.prog 63 #[rp r2] wx (fun e w' => e = .returned (.int .i64 dd) ∧ Only (fun _ => False) wx w')))
    have HDD := Lib.hid hdd
    obtain ⟨gh, had, p, c, hN⟩ := hcut
    have hw3 := hN.ho.size
    have hgh := hN.hg
    have HN := Lib.hid hN
    clear hdd hN G
    go_wp2_with (first
      | (go_at_call 63; refine (HD.out _ HN.out.inn).mono ?_; rintro e w6 ⟨rfl, ho6⟩; have H6 := Lib.hid (HN.out.quiet ho6); clear ho6)
      | (go_at_call 58; refine (rfail_c r g b s1 b1 _ _ H6.out.out).mono ?_; rintro e w7 ⟨rfl, hR7, ho7⟩; have H7 := Lib.hid (And.intro hR7 ho7); clear hR7 ho7))
    go_end0
    have hbx : (dd != 0) = decide (doneS Y.2.1 Y.2.2 ≠ 0) := by rw [← HDD.out, Bool.eq_iff_iff]; simp
    have hR7 := H7.out.1
    rw [hbx] at hR7
    obtain ⟨z, hz⟩ := H6.out.at'
    refine ⟨rfl, ⟨z, (hz.only H7.out.2 (fun k hk => by subst hk; exact ⟨by rintro (⟨h, _⟩ | ⟨h, _⟩); exact hSr h; omega, hrq⟩)).mono (fun k _ h => by rcases h with h | h; exact .inl h.1; exact .inr (by omega))⟩, hR7, ?_⟩
    exact ((K3.out.2.mono (fun _ _ h => .inl h)).trans H6.out.ho (fun _ h => h) (fun k hk h => by rcases h with h | h; omega; exact .inr h)).then (H7.out.2.mono (fun _ _ h => .inl h))
end Go.Proofs.Ytegmimnhkohaoaa
/-
  The contract of relayref08.GetServer. Condition: at most 2 to the 46th bytes.
-/
namespace Go.Proofs.Ytegmimnhkohaoaa
open Go.RowKit Go.Kx
set_option linter.unusedVariables false
set_option linter.unusedSimpArgs false
set_option maxRecDepth 100000

theorem Try.built_rv0 : Try.prog.built 27 [(3, .int .i64 771), (7, .int .i64 (-1))] = some (svV sv0 z0) := by kernel_rfl
theorem Try.built_rvZ : Try.prog.built 27 [] = some (svV svZ z0) := by kernel_rfl
/-- What the document's GetServer tells, step by step. -/
def rgsX (st : Sv) (l : List UInt8) (bad : Int) : Sv × Int :=
  let x := rexSv st l bad
  gsZ x.1 x.2.1 (failB x.2.2 (decide (x.1.retry = true ∧ x.1.grp = 0 ∧ x.1.cook.length = 0)))
def rgsV (st : Sv) (l : List UInt8) (bad : Int) : Sv × Int :=
  let u := rU l bad 2
  let z := rU u.2.1 u.2.2 1
  rgsX { st with suite := u.1 } z.2.1 (failB z.2.2 (z.1 != 0))
def rgsU (st : Sv) (l : List UInt8) (bad : Int) : Sv × Int :=
  let v := vecS l bad 1 0 32
  rgsV { st with ses := v.1 } v.2.1 v.2.2
def rgsT (l : List UInt8) (bad : Int) : Sv × Int := rgsU (getS1 (rndG (outS l bad 32))) (leftS l bad 32) (badS l bad 32)
def rgetS (b : List UInt8) : Sv × Int := rgsT (rU b 0 2).2.1 (failB (rU b 0 2).2.2 ((rU b 0 2).1 != 771))
def GetRSR (w : World) (y : Sv × Int) (e : Ending) (w' : World) : Prop := ∃ z, e = .returned (.tuple #[.agg (svV y.1 z), .int .i64 y.2]) ∧ SvN w' (fun k => w.heap.size ≤ k) y.1 z ∧ Below w.heap.size w w'

/-- What stays while a Server is read. -/
structure RsI (w : World) (q0 r g : Nat) (b : List UInt8) (st : Sv) (z : S3) (l : List UInt8) (bad : Int) (wx : World) : Prop where
  cur : Rf wx r g b l bad
  bel : Below w.heap.size w wx
  zb : Blk wx w.heap.size 27 (svV svZ z0)
  sv : RB wx q0 (fun k => q0 < k) st z
  hr : w.heap.size < r
  hg : g ≠ q0
  hrq : r < q0
  hgr : g < q0
section
variable {w wx wy : World} {q0 r g : Nat} {b : List UInt8} {st st' : Sv} {z z' : S3} {l l' : List UInt8} {bad bad' : Int}
theorem RsI.step (h : RsI w q0 r g b st z l bad wx) (hc : Rf wy r g b l' bad') (ho : Only (· = r) wx wy) : RsI w q0 r g b st z l' bad' wy :=
  ⟨hc, below_only h.bel h.bel.size ho (by intro k hk e; have := h.hr; omega), h.zb.only ho (by have := h.hr; omega), h.sv.only ho (fun k hk => by have := h.hrq; subst hk; exact ⟨by omega, by omega⟩), h.hr, h.hg, h.hrq, h.hgr⟩
theorem RsI.set (h : RsI w q0 r g b st z l bad wx) (hs : RB wy q0 (fun k => q0 < k) st' z') (ho : Only (· = q0) wx wy) : RsI w q0 r g b st' z' l bad wy :=
  ⟨h.cur.only ho (by have := h.hrq; omega) h.hg, below_only h.bel h.bel.size ho (by intro k hk e; have := h.hr; have := h.hrq; omega), h.zb.only ho (by have := h.hr; have := h.hrq; omega), hs, h.hr, h.hg, h.hrq, h.hgr⟩
theorem RsI.below (h : RsI w q0 r g b st z l bad wx) (hb : Below wx.heap.size wx wy) : RsI w q0 r g b st z l bad wy :=
  ⟨h.cur.only (Only.of_below (r := fun _ => False) hb) (fun h => h) (fun h => h), h.bel.trans (hb.mono h.bel.size), h.zb.below hb, h.sv.only (Only.of_below (r := fun _ => False) hb) (fun _ h => h.elim), h.hr, h.hg, h.hrq, h.hgr⟩
theorem RsI.drew (h : RsI w q0 r g b st z l bad wx) : RsI w q0 r g b st z l bad wx.drew := h.below ((Below.refl _ _).drew)
end
theorem RB.rnd {w : World} {q0 : Nat} {S : Nat → Prop} {s : Sv} {z : S3} (h : RB w q0 S s z) : w.rangeAt q0 0 (s.R.map B8) := by
  intro j v hv
  simp only [List.getElem?_map, Option.map_eq_some_iff] at hv
  obtain ⟨x, hx, rfl⟩ := hv
  rw [h.b.c, Nat.zero_add, svV_cells, List.getElem?_toArray, List.getElem?_append_left (by rw [List.length_map]; exact (List.getElem?_eq_some_iff.1 hx).1), List.getElem?_map, hx]
  rfl

set_option maxHeartbeats 8000000 in
theorem rgetServer_c (S : Nat → Prop) (p : Option Addr) (n c : Nat) (b : List UInt8) (w : World) (hR : Rd w S p b) (hp : p = none → c = 0) (hp2 : ∀ x, p = some x → x.spot = none ∧ x.block < w.heap.size) (h1 : n ≤ c) (h2 : c ≤ maxLen) (hl : b.length ≤ 70368744177664) (hn : b.length = n) :
    Calls Try.prog 20 #[.slice p n c] w (GetRSR w (rgetS b)) := by
  have HR := Lib.hid (And.intro hR (And.intro hp (And.intro hn (And.intro hp2 (And.intro h1 h2)))))
  clear hR hp hn hp2 h1 h2
  have hz := run_zeroRv
  obtain ⟨y, hy⟩ : ∃ y, y = rgetS b := ⟨_, rfl⟩
  rw [← hy]
  have HGS := Lib.hid hy
  clear hy
  go_enter Try.func20, Try.ntmps20
  go_upto_region 1 with (fail)
  have hB0 : Below w.heap.size w (w.alloc (.cells (svV svZ z0) 27)) := (Below.refl _ _).alloc (Nat.le_refl _) _
  have hb0 := Blk.new w 27 (svV svZ z0)
  have hz0 := World.size_alloc w (.cells (svV svZ z0) 27)
  generalize w.alloc (.cells (svV svZ z0) 27) = w0 at *
  have hz0' : w.heap.size < w0.heap.size := by omega
  clear hz0
  obtain ⟨g, hgl, hgo, hRf⟩ := Rf.new (q := w.heap.size) (HR.out.1.below hB0) HR.out.2.2.1 HR.out.2.1 (fun x hx => ⟨(HR.out.2.2.2.1 x hx).1, by have := (HR.out.2.2.2.1 x hx).2; omega⟩) HR.out.2.2.2.2.1 HR.out.2.2.2.2.2 (by omega)
  go_upto_region 2 with (fail)
  have hB1 : Below w0.heap.size w0 (w0.alloc (.cells #[.slice p n c, .int .i64 0, .int .i64 0] 109)) := (Below.refl _ _).alloc (Nat.le_refl _) _
  have hz1 := World.size_alloc w0 (.cells #[.slice p n c, .int .i64 0, .int .i64 0] 109)
  generalize w0.alloc (.cells #[.slice p n c, .int .i64 0, .int .i64 0] 109) = w1 at *
  have hz1' : w0.heap.size < w1.heap.size := by omega
  clear hz1
  have hb2 := Blk.new w1 27 (svV svZ z0)
  have hB2 : Below w1.heap.size w1 (w1.alloc (.cells (svV svZ z0) 27)) := (Below.refl _ _).alloc (Nat.le_refl _) _
  have HB2 := Lib.hid (And.intro hb2 hB2)
  clear hb2 hB2
  go_upto_region 3 with (first
    | (refine wpList_build_eq rfl 27 _ rfl (C := svV sv0 z0) rfl Try.built_rv0 ?_)
    | (refine st_blk rfl 27 (.tmp 5) (.tmp 12) rfl w1.heap.size (svV sv0 z0) rfl rfl 27 (svV svZ z0) HB2.out.1 (by rw [svV_size' _ _ rfl]; exact Try.infoRv) (by rw [svV_size' _ _ rfl, svV_size' _ _ rfl]) (svV_ones _ _) ?_; intro w2 hb2 ho2; have H2 := Lib.hid (And.intro hb2 ho2); clear hb2 ho2))
  have hI2 : RsI w w1.heap.size w0.heap.size g b sv0 z0 b 0 w2 := by
    have hB2 := HB2.out.2
    have ho := H2.out.2
    exact ⟨(hRf.only (Only.of_below (r := fun _ => False) hB2) (fun h => h) (fun h => h)).only ho (by omega) (by omega), below_only ((hB0.trans (hB1.mono (by omega))).trans (hB2.mono (by omega))) (by have := hB2.size; omega) ho (by intro k hk e; omega), ((hb0.below hB1).below hB2).only ho (by omega), ⟨H2.out.1, rfl, nilS _ _, nilS _ _, nilS _ _⟩, by omega, by omega, by omega, by omega⟩
  have I2 := Lib.hid hI2
  obtain ⟨q0, hq0⟩ : ∃ q0, q0 = w1.heap.size := ⟨_, rfl⟩
  obtain ⟨r, hr⟩ : ∃ r, r = w0.heap.size := ⟨_, rfl⟩
  rw [← hq0, ← hr] at I2
  rw [← hq0, ← hr]
  have hwr : w.heap.size < r := by omega
  have hrq : r < q0 := by omega
  clear hB0 hb0 hgo hRf hB1 HB2 H2 hI2 hz hgl hq0 hr
  -- the number
  have hrwl := I2.out.cur.rlt
  have hul := rU_left b 0 2
  have HU := Lib.hid (fun wx (h : Rf wx r g b b 0) => rfu_c r g b b 0 2 wx h (by omega))
  have hy := HGS.out
  unfold rgetS at hy
  generalize rU b 0 2 = u at *
  obtain ⟨a, l0, e0⟩ := u
  simp only at hul HU hy
  have HFA := Lib.hid (fun wx (h : Rf wx r g b l0 e0) => rfail_c r g b l0 e0 (a != 771) wx h)
  obtain ⟨e1, he1⟩ : ∃ e1, e1 = failB e0 (a != 771) := ⟨_, rfl⟩
  rw [← he1] at HFA hy
  have HY0 := Lib.hid hy
  clear hy he1
  go_upto_region 5 with (first
    | (go_at_call 57; refine (HU.out _ I2.out.cur).mono ?_; rintro e w3 ⟨rfl, hc, ho⟩; have I3 := Lib.hid (I2.out.step hc ho); clear hc ho)
    | (go_at_call 58; refine (HFA.out _ I3.out.cur).mono ?_; rintro e w4 ⟨rfl, hc, ho⟩; have I4 := Lib.hid (I3.out.step hc ho); have hz34 := ho.size; clear hc ho))
  clear I2 I3 HU HFA
  -- the random number
  have ho32 := outS_32 l0 e1
  have hlo := leftS_le l0 e1 32
  have HBy := Lib.hid (fun wx (h : Rf wx r g b l0 e1) => rbytes_c r g b l0 e1 32 wx h (by omega))
  have hy1 : y = rgsU (getS1 (rndG (outS l0 e1 32))) (leftS l0 e1 32) (badS l0 e1 32) := HY0.out
  clear HY0
  generalize outS l0 e1 32 = o at *
  generalize leftS l0 e1 32 = l1 at *
  generalize badS l0 e1 32 = b1 at *
  have HY1 := Lib.hid hy1
  clear hy1
  have HD := Lib.hid (show Rf w4.drew r g b l0 e1 from I4.out.cur.only ((Only.refl (fun _ => False) w4).drew) (fun h => h) (fun h => h))
  have hs4 : q0 < w4.heap.size := I4.out.sv.b.lt
  have HFIT := Lib.hid (show 0 + (o.map B8).length ≤ (svV sv0 z0).toList.length by rw [List.length_map, svV_len _ _ rfl]; omega)
  go_region_held3 (fun w' => True) (trivial) (first
    | (go_at_call 59; refine (HBy.out _ (by first | exact HD.out | exact I4.out.cur)).mono ?_; rintro e w5 ⟨g', p', c', rfl, k1, hO, hc, hoq⟩; have ho : Only (· = r) w4 w5 := ⟨hoq.os, hoq.tape, hoq.output, hoq.size, hoq.block⟩; clear hoq; have H5 := Lib.hid (And.intro hO (I4.out.step hc ho)); have hs5 := ho.size; clear hO hc ho)
    | (refine step_copy_splice rfl (.tmp 20) (.tmp 22) 23 23 rfl 5 Try.underlying23 (by kernel_rfl) _ _ _ _ _ _ rfl rfl q0 0 (svV sv0 z0).toList 27 (by rw [Array.toArray_toList]; exact H5.out.2.sv.b) (o.map B8) (by rw [List.length_map]; exact (Nat.min_eq_left ho32).symm) (fun h0 => ⟨rfl, rd_src H5.out.1.rd h0⟩) HFIT.out (oneCell_map _) q0 w5 (Below.refl _ _) (Nat.le_refl _) ?_; intro w6 hg6 hb6; have HG6 := Lib.hid (And.intro hg6.out hb6); clear hg6 hb6))
  have hRl : (rndG o).length = 32 := rndG_len ho32
  have hG6 : RsI w q0 r g b { sv0 with R := rndG o } z0 l1 b1 w6 := by
    have ho6 := Only.of_belowN HG6.out.2
    have hI := H5.out.2
    have hgr := hI.hgr
    refine ⟨hI.cur.only ho6 (by omega) (by omega), below_only hI.bel hI.bel.size ho6 (by intro k hk e; omega), hI.zb.only ho6 (by omega), ⟨?_, hRl, nilS _ _, nilS _ _, nilS _ _⟩, hI.hr, hI.hg, hI.hrq, hI.hgr⟩
    have h := HG6.out.1
    rw [splice_rndG sv0 z0 o rfl ho32] at h
    exact h
  have G6 := Lib.hid hG6
  have hs6 := hG6.bel.size
  have hqw := hG6.sv.b.lt
  have hrw := hG6.cur.rlt
  clear hG6 HG6 H5 I4 HD HFIT HBy
  generalize rndG o = R at *
  go_upto_region 6 with (fail)
  go_cut [27] (fun v27 wx => v27 = .bool (R == retryL) ∧ RsI w q0 r g b { sv0 with R := R } z0 l1 b1 wx)
  case first =>
    have hs := fun w => run_eq32 w 9998 R retryL hRl retryL_len
    have hgu := Try.guard32
    have hu := Try.underlying22
    have hi : (Try.prog.info? 22).map (·.size) = some (R.map B8).length := by rw [List.length_map, hRl]; exact Try.infoB32
    have hI0 := G6.out
    have hI := G6.out.drew
    go_region_held3 (fun w' => w'.rangeAt q0 0 (R.map B8)) (first | exact hI.sv.rnd | exact hI0.sv.rnd) (first
      | (go_at_call 37; refine (rretry_c _).mono ?_; rintro e w1 ⟨rfl, b1⟩; have hI2 := hI.below b1; clear hI; have hI := hI2; clear hI2))
    all_goals go_wp2
    all_goals go_meet
    all_goals exact ⟨rfl, hI⟩
  case rest =>
    obtain ⟨bq, hbq⟩ : ∃ bq, bq = (R == retryL) := ⟨_, rfl⟩
    rw [← hbq] at hcut
    obtain ⟨rfl, hI⟩ := hcut
    have G7 := Lib.hid (And.intro hI hbq)
    clear hI hbq G6
    go_upto_if 27 with (fail)
    go_cut [27] (fun v27 wx => RsI w q0 r g b (getS1 R) z0 l1 b1 wx)
    case first =>
      cases bq
      · go_wp2
        go_meet
        have h1 : getS1 R = { sv0 with R := R } := by unfold getS1; rw [if_neg (fun e => by have h := G7.out.2; simp [e] at h)]
        rw [h1]
        exact G7.out.1
      · have c37 := G7.out.1.sv.cell 5
        have f37 := G7.out.1.sv.b.fr 37
        have hG7 := G7.out.1
        go_wp2_with (first
          | (refine wpList_build_eq rfl 22 _ rfl (C := ((List.replicate 32 (0 : UInt8)).map B8).toArray) rfl Try.built_z32 ?_)
          | (refine st_part rfl 22 (.tmp 29) (.tmp 28) rfl q0 0 ((List.replicate 32 (0 : UInt8)).map B8) rfl rfl 27 _ hG7.sv.b Try.infoB32 (by rw [svV_size' _ _ hRl, List.length_map, List.length_replicate]; omega) (oneCell_map _) ?_; intro w7 hb7 ho7; rw [splice_rnd _ _ _ hRl (by rw [List.length_replicate])] at hb7; have hJ7 : RsI w q0 r g b { sv0 with R := List.replicate 32 0 } z0 l1 b1 w7 := hG7.set ⟨hb7, List.length_replicate, nilS _ _, nilS _ _, nilS _ _⟩ ho7; have d37 := hJ7.sv.cell 5; have g37 := hJ7.sv.b.fr 37; have J7 := Lib.hid hJ7; clear hb7 ho7 hJ7))
        go_meet
        have h1 : getS1 R = { sv0 with retry := true } := by unfold getS1; rw [if_pos (by have h := G7.out.2; simpa using h.symm)]
        rw [h1]
        exact J7.out.set (J7.out.sv.put (fun h => Nat.lt_irrefl _ h) 5 (.bool true) { sv0 with retry := true } z0 rfl rfl (nilS _ _) (nilS _ _) (nilS _ _)) ((Only.refl (fun k => k = q0) _).setCell _ _ (.inl rfl))
    case rest =>
      have G8 := Lib.hid hcut
      clear hcut G7
      generalize getS1 R = s1 at *
      have hqw := G8.out.sv.b.lt
      have hrw := G8.out.cur.rlt
      have hgr := G8.out.hgr
      have hgq := G8.out.hg
      have hy2 := HY1.out
      clear HY1
      unfold rgsU at hy2
      dsimp only at hy2
      have hlv := vecS_left l1 b1 1 0 32
      have HV := Lib.hid (fun wx (h : Rf wx r g b l1 b1) => rvector_c r g b l1 b1 1 0 32 wx h (by omega))
      generalize vecS l1 b1 1 0 32 = v at *
      have HY2 := Lib.hid hy2
      clear hy2
      go_upto_region 9 with (go_at_call 60; refine (HV.out _ G8.out.cur).mono ?_; rintro e w7 ⟨g7, p7, c7, rfl, hg7, hO, hc, ho⟩; have hz7 := ho.size; have G7a := G8.out.step hc ho; have c32 := G7a.sv.cell 0; have f32 := G7a.sv.b.fr 32; have P7 := Lib.hid (G7a.set (G7a.sv.put (fun h => Nat.lt_irrefl _ h) 0 (.slice p7 v.1.length c7) { s1 with ses := v.1 } { z0 with p1 := p7, n1 := v.1.length, c1 := c7 } rfl rfl (SlS.of_own hO rfl (show q0 < g7 by omega)) G7a.sv.s2 G7a.sv.s3) ((Only.refl (fun k => k = q0) _).setCell _ _ (.inl rfl))); clear hc ho hO G7a hg7)
      have hq7 := P7.out.sv.b.lt
      generalize w7.setCell ⟨q0, 32, none⟩ (.slice p7 v.1.length c7) = w8 at *
      generalize ({ z0 with p1 := p7, n1 := v.1.length, c1 := c7 } : S3) = z1 at *
      generalize ({ s1 with ses := v.1 } : Sv) = s2 at *
      clear G8 HV
      have hy3 := HY2.out
      clear HY2
      unfold rgsV at hy3
      dsimp only at hy3
      have hlu := rU_left v.2.1 v.2.2 2
      have HU := Lib.hid (fun wx (h : Rf wx r g b v.2.1 v.2.2) => rfu_c r g b v.2.1 v.2.2 2 wx h (by omega))
      generalize rU v.2.1 v.2.2 2 = u at *
      have hlz := rU_left u.2.1 u.2.2 1
      have HZ := Lib.hid (fun wx (h : Rf wx r g b u.2.1 u.2.2) => rfu_c r g b u.2.1 u.2.2 1 wx h (by omega))
      generalize rU u.2.1 u.2.2 1 = zz at *
      have HFZ := Lib.hid (fun wx (h : Rf wx r g b zz.2.1 zz.2.2) => rfail_c r g b zz.2.1 zz.2.2 (zz.1 != 0) wx h)
      obtain ⟨b9, hb9⟩ : ∃ b9, b9 = failB zz.2.2 (zz.1 != 0) := ⟨_, rfl⟩
      rw [← hb9] at HFZ hy3
      have HY3 := Lib.hid hy3
      clear hy3 hb9
      go_upto_region 12 with (first
        | (go_at_call 57; have hq := P9; refine (HZ.out _ P9.out.cur).mono ?_; rintro e w10 ⟨rfl, hc, ho⟩; have G10 := Lib.hid (P9.out.step hc ho); clear hc ho)
        | (go_at_call 57; refine (HU.out _ P7.out.cur).mono ?_; rintro e w9 ⟨rfl, hc, ho⟩; have hz9 := ho.size; have G9 := P7.out.step hc ho; have c33 := G9.sv.cell 1; have f33 := G9.sv.b.fr 33; have P9 := Lib.hid (G9.set (G9.sv.put (fun h => Nat.lt_irrefl _ h) 1 (.int .i64 u.1) { s2 with suite := u.1 } z1 rfl rfl G9.sv.s1 G9.sv.s2 G9.sv.s3) ((Only.refl (fun k => k = q0) _).setCell _ _ (.inl rfl))); clear hc ho G9)
        | (go_at_call 58; refine (HFZ.out _ G10.out.cur).mono ?_; rintro e w11 ⟨rfl, hc, ho⟩; have G11 := Lib.hid (G10.out.step hc ho); clear hc ho))
      have hq11 := G11.out.sv.b.lt
      have hr11 := G11.out.cur.rlt
      clear HU HZ HFZ P7 P9 G10
      generalize ({ s2 with suite := u.1 } : Sv) = s3 at *
      have hy4 := HY3.out
      clear HY3
      unfold rgsX at hy4
      dsimp only at hy4
      have hX := rextsS_c q0 w11 (fun k => q0 < k) s3 r g b zz.2.1 b9 ⟨_, G11.out.sv⟩ (fun h => Nat.lt_irrefl _ h) G11.out.cur (by omega) (by omega) hgq (by omega) (by omega)
      generalize rexSv s3 zz.2.1 b9 = x at *
      have HX := Lib.hid hX
      have HY4 := Lib.hid hy4
      clear hX hy4
      go_upto_region 13 with (go_at_call 62; refine HX.out.mono ?_; rintro e w12 ⟨rfl, ⟨z4, hsv⟩, hc, ho⟩; have G12 := Lib.hid (show RsI w q0 r g b x.1 z4 x.2.1 x.2.2 w12 from ⟨hc, below_only G11.out.bel G11.out.bel.size ho (by intro k hk e; omega), G11.out.zb.only ho (by omega), hsv.mono (fun k _ hk => by omega), G11.out.hr, G11.out.hg, G11.out.hrq, G11.out.hgr⟩); clear hc hsv ho)
      clear G11 HX
      have hl3 : x.1.cook.length = z4.n3 := G12.out.sv.s3.1
      obtain ⟨re, hre⟩ : ∃ re, re = x.1.retry := ⟨_, rfl⟩
      obtain ⟨gr, hgr'⟩ : ∃ gr, gr = x.1.grp := ⟨_, rfl⟩
      obtain ⟨n3, hn3⟩ : ∃ n3, n3 = z4.n3 := ⟨_, rfl⟩
      have c37 : w12.cell? ⟨q0, 37, none⟩ = some (.bool re) := (G12.out.sv.cell 5).trans (by rw [hre]; rfl)
      have c35 : w12.cell? ⟨q0, 35, none⟩ = some (.int .i64 gr) := (G12.out.sv.cell 3).trans (by rw [hgr']; rfl)
      have c38 : w12.cell? ⟨q0, 38, none⟩ = some (.slice z4.p3 n3 z4.c3) := (G12.out.sv.cell 6).trans (by rw [hn3]; rfl)
      obtain ⟨is, his⟩ : ∃ is, is = decide (x.1.retry = true ∧ x.1.grp = 0 ∧ x.1.cook.length = 0) := ⟨_, rfl⟩
      have hy5 := HY4.out
      rw [← his] at hy5
      rw [← hre, ← hgr', hl3, ← hn3] at his
      have HIS := Lib.hid his
      have HFR := Lib.hid (fun wx (h : Rf wx r g b x.2.1 x.2.2) => rfail_c r g b x.2.1 x.2.2 is wx h)
      obtain ⟨b13, hb13⟩ : ∃ b13, b13 = failB x.2.2 is := ⟨_, rfl⟩
      rw [← hb13] at HFR hy5
      have HY5 := Lib.hid hy5
      clear hy5 HY4 hb13 his hre hgr' hn3 hl3
      go_cut [60] (fun _ wx => RsI w q0 r g b x.1 z4 x.2.1 b13 wx)
      case first =>
        cases re
        case' false =>
          obtain rfl : is = false := by rw [HIS.out]; exact decide_eq_false (by rintro ⟨h, _⟩; cases h)
        case' true =>
          by_cases hg0 : gr = 0
          case' neg =>
            have hgb : (gr == 0) = false := by simpa using hg0
            obtain rfl : is = false := by rw [HIS.out]; exact decide_eq_false (by rintro ⟨_, h, _⟩; exact hg0 h)
            clear hg0
          case' pos =>
            subst hg0
            by_cases hn0 : n3 = 0
            case' neg =>
              have hnb : ((n3 : Int) == 0) = false := by rw [beq_cast]; simpa using hn0
              obtain rfl : is = false := by rw [HIS.out]; exact decide_eq_false (by rintro ⟨_, _, h⟩; exact hn0 h)
              clear hn0
            case' pos =>
              subst hn0
              obtain rfl : is = true := by rw [HIS.out]; exact decide_eq_true ⟨rfl, rfl, rfl⟩
        all_goals
          go_wp2_with (go_at_call 58; refine (HFR.out _ G12.out.cur).mono ?_; rintro e w13 ⟨rfl, hc, ho⟩; have G13 := Lib.hid (G12.out.step hc ho); clear hc ho)
          go_meet
          exact G13.out
      case rest =>
        have G15 := Lib.hid hcut
        clear hcut G12 c37 c35 c38 HFR HIS
        have hy6 := HY5.out
        clear HY5
        unfold gsZ at hy6
        have hdn := fun wx (h : Rf wx r g b x.2.1 b13) => rdone_c r g b x.2.1 b13 wx h
        generalize doneS x.2.1 b13 = dd at *
        have HD := Lib.hid hdn
        clear hdn
        have hlt0 := G15.out.zb.lt
        by_cases hd : dd = 0
        · have hyy : y = (x.1, 0) := by rw [hy6, if_pos hd]
          have HYY := Lib.hid hyy
          clear hyy hy6
          subst hd
          go_wp2_with (first
            | (go_at_call 63; refine (HD.out _ G15.out.cur).mono ?_; rintro e w15 ⟨rfl, ho15⟩; have hz15 := ho15.size; have G16 := Lib.hid (show Below w.heap.size w w15 ∧ Blk w15 w.heap.size 27 (svV svZ z0) ∧ RB w15 q0 (fun k => q0 < k) x.1 z4 from ⟨below_only G15.out.bel G15.out.bel.size ho15 (fun _ _ h => h), G15.out.zb.only ho15 (fun h => h), G15.out.sv.only ho15 (fun _ h => h.elim)⟩); clear ho15)
            | (refine wpList_load_mid rfl 27 (.tmp 5) rfl q0 0 rfl (svV x.1 z4).toList _ G16.out.2.2.b.range Try.underlying27 rfl (by rw [svV_len _ _ G16.out.2.2.len]; exact Try.infoRv) ?_; rw [Array.toArray_toList])
            | (refine st_blk rfl 27 (.tmp 2) (.tmp 67) rfl w.heap.size (svV x.1 z4) rfl rfl 27 (svV svZ z0) G16.out.2.1 (by rw [svV_size' _ _ G16.out.2.2.len]; exact Try.infoRv) (by rw [svV_size' _ _ rfl, svV_size' _ _ G16.out.2.2.len]) (svV_ones _ _) ?_; intro w16 hb16 ho16; have H16 := Lib.hid (And.intro hb16 ho16); clear hb16 ho16))
          refine bodyPost_ret (v := .tuple #[.agg (svV x.1 z4), .int .i64 0]) (results_ct (P := Try.prog) 2 3 Try.results20 _ _ w.heap.size _ _ _ (.int .i64 0) rfl rfl H16.out.1 Try.underlying27 rfl (by rw [svV_size' _ _ G16.out.2.2.len]; exact Try.infoRv)) rfl ?_
          rw [HYY.out]
          have hS : ∀ N k, k < N → q0 < k → w.heap.size < k := by intro N k _ hk; omega
          have ho := H16.out.2
          have hn : ∀ k, w.heap.size < k → ¬ k = w.heap.size := by intro k hk e; omega
          exact ⟨z4, rfl, ⟨G16.out.2.2.len, ((G16.out.2.2.s1.mono (hS _)).only ho hn).mono (fun k _ h => Nat.le_of_lt h), ((G16.out.2.2.s2.mono (hS _)).only ho hn).mono (fun k _ h => Nat.le_of_lt h), ((G16.out.2.2.s3.mono (hS _)).only ho hn).mono (fun k _ h => Nat.le_of_lt h)⟩, below_only G16.out.1 G16.out.1.size ho (by intro k hk e; omega)⟩
        · have hyy : y = (svZ, dd) := by rw [hy6, if_neg hd]
          have HYY := Lib.hid hyy
          have hdb : (dd != 0) = true := by simpa using hd
          clear hyy hy6 hd
          go_wp2_with (first
            | (go_at_call 63; refine (HD.out _ G15.out.cur).mono ?_; rintro e w15 ⟨rfl, ho15⟩; have hz15 := ho15.size; have G16 := Lib.hid (show Below w.heap.size w w15 ∧ Blk w15 w.heap.size 27 (svV svZ z0) from ⟨below_only G15.out.bel G15.out.bel.size ho15 (fun _ _ h => h), G15.out.zb.only ho15 (fun h => h)⟩); clear ho15)
            | (refine wpList_build_eq rfl 27 _ rfl (C := svV svZ z0) rfl Try.built_rvZ ?_)
            | (refine st_blk rfl 27 (.tmp 2) (.tmp 65) rfl w.heap.size (svV svZ z0) rfl rfl 27 (svV svZ z0) G16.out.2 (by rw [svV_size' _ _ rfl]; exact Try.infoRv) rfl (svV_ones _ _) ?_; intro w16 hb16 ho16; have H16 := Lib.hid (And.intro hb16 ho16); clear hb16 ho16))
          refine bodyPost_ret (v := .tuple #[.agg (svV svZ z0), .int .i64 dd]) (results_ct (P := Try.prog) 2 3 Try.results20 _ _ w.heap.size _ _ _ (.int .i64 dd) rfl rfl H16.out.1 Try.underlying27 rfl (by rw [svV_size' _ _ rfl]; exact Try.infoRv)) rfl ?_
          rw [HYY.out]
          exact ⟨z0, rfl, ⟨List.length_replicate, nilS _ _, nilS _ _, nilS _ _⟩, below_only G16.out.1 G16.out.1.size H16.out.2 (by intro k hk e; omega)⟩
end Go.Proofs.Ytegmimnhkohaoaa
