/-
  The contract of hello.GetClient. Condition: at most 2 to the 46th bytes.
-/
import Derived.Test.YtegmimnhkohaoaaZg6
import Derived.Test.YtegmimnhkohaoaaZHelV
import Derived.Test.YtegmimnhkohaoaaZg4
import Derived.Test.YtegmimnhkohaoaaZg1
namespace Go.Proofs.Ytegmimnhkohaoaa
open Go.RowKit Go.Kx
set_option linter.unusedVariables false
set_option linter.unusedSimpArgs false
set_option maxRecDepth 100000

def clZ : Cl := ⟨List.replicate 32 0, [], [], [], [], [], [], [], [], [], []⟩
def z10 : Z10 := ⟨none, 0, 0, none, 0, 0, none, 0, 0, none, 0, 0, none, 0, 0, none, 0, 0, none, 0, 0, none, 0, 0, none, 0, 0, none, 0, 0⟩
theorem Try.zeroCl : (Try.prog.info? 56).map (fun i => (i.zero, i.size)) = some (some (.agg (clV clZ z10)), 42) := by kernel_rfl
theorem run_zeroCl (w : World) : (zeroValue 56).run Try.prog w = .ok (.agg (clV clZ z10)) w := (zero_of_info Try.zeroCl).1 w
theorem Try.built_clZ : Try.prog.built 56 [] = some (clV clZ z10) := by kernel_rfl
theorem IsCl.zero (w : World) (S : Nat → Prop) : IsCl w S clZ z10 :=
  have e : (0 : Nat) ≤ maxLen := Nat.zero_le _
  ⟨rfl, ⟨rfl, Rd.nil _ _ _, fun _ => rfl, Nat.le_refl _, e⟩, ⟨rfl, RdV.nil _ _ _, fun _ => rfl, Nat.le_refl _, e⟩, ⟨rfl, RdV.nil _ _ _, fun _ => rfl, Nat.le_refl _, e⟩, ⟨rfl, RdV.nil _ _ _, fun _ => rfl, Nat.le_refl _, e⟩, ⟨rfl, RdV.nil _ _ _, fun _ => rfl, Nat.le_refl _, e⟩, ⟨rfl, fun i h => by simp [clZ] at h, fun _ => rfl, Nat.le_refl _, e⟩, ⟨rfl, Rd.nil _ _ _, fun _ => rfl, Nat.le_refl _, e⟩, ⟨rfl, Rd.nil _ _ _, fun _ => rfl, Nat.le_refl _, e⟩, ⟨rfl, fun i h => by simp [clZ] at h, fun _ => rfl, Nat.le_refl _, e⟩, ⟨rfl, fun i h => by simp [clZ] at h, fun _ => rfl, Nat.le_refl _, e⟩⟩

theorem bytesEq_c (S T : Nat → Prop) (p q : Option Addr) (n c m k : Nat) (l l' : List UInt8) (w : World) (h1 : Rd w S p l) (h2 : l.length = n) (h3 : Rd w T q l') (h4 : l'.length = m) : Calls Try.prog 55 #[.slice p n c, .slice q m k] w fun e w' => e = .returned (.bool (decide (l = l'))) ∧ w = w' := by
  have e1 := run_str (c := c) h1 h2
  have e2 := run_str (c := k) h3 h4
  go_enter Try.func55, Try.ntmps55
  go_wp2
  go_ret
  refine ⟨congrArg Ending.returned (congrArg Value.bool ?_), rfl⟩
  rw [Bool.eq_iff_iff]
  simp

/-- What GetClient tells, step by step. -/
def gcZ (st : Cl) (l : List UInt8) (bad : Int) : Cl × Int := if doneS l bad = 0 then (st, 0) else (clZ, doneS l bad)
def gcX (st : Cl) (l : List UInt8) (bad : Int) : Cl × Int :=
  let a := vecS l bad 2 0 65535
  let x := extsL cliF (a.1.length + 1) st [] a.1 0
  gcZ x.1 a.2.1 (insB a.2.2 x.2)
def cmpB (c : List UInt8) (bad : Int) : Int := if c = [0] then bad else rm bad 3
def gcC (st : Cl) (l : List UInt8) (bad : Int) : Cl × Int :=
  let c := vecS l bad 1 1 1
  gcX st c.2.1 (cmpB c.1 c.2.2)
def gcN (st : Cl) (l : List UInt8) (bad : Int) : Cl × Int :=
  let n := numsS l bad 2 8
  gcC { st with suites := n.1 } n.2.1 n.2.2
def gcV (st : Cl) (l : List UInt8) (bad : Int) : Cl × Int :=
  let v := vecS l bad 1 0 32
  gcN { st with ses := v.1 } v.2.1 v.2.2
def gcT (m : List UInt8 × Int) : Cl × Int := gcV { clZ with R := rndG (outS m.1 m.2 32) } (leftS m.1 m.2 32) (badS m.1 m.2 32)
def getC (b : List UInt8) : Cl × Int := gcT (mustS b 0 771 2)
theorem numsS_left (s : List UInt8) (bad W m : Int) : (numsS s bad W m).2.1.length ≤ s.length := vecS_left s bad W 0 65535

theorem clV_len (s : Cl) (z : Z10) (h : s.R.length = 32) : (clV s z).toList.length = 42 := by rw [Array.length_toList, clV_size s z h]
theorem splice_rndC (s : Cl) (z : Z10) (l : List UInt8) (h : s.R = List.replicate 32 0) (hl : l.length ≤ 32) : (splice (clV s z).toList 0 (l.map B8)).toArray = clV { s with R := rndG l } z := by
  unfold clV
  unfold splice rndG
  rw [h]
  have hZ : (List.replicate 32 (0 : UInt8)).length = 32 := List.length_replicate
  generalize List.replicate 32 (0 : UInt8) = Z at *
  show (([] : List Value) ++ (l.map B8 ++ List.drop (0 + (l.map B8).length) (Z.map B8 ++ clL z))).toArray = ((l ++ Z.drop l.length).map B8 ++ clL z).toArray
  rw [Nat.zero_add, List.length_map, List.drop_append, List.length_map, hZ, show l.length - 32 = 0 by omega, List.drop_zero, List.map_append, List.map_drop, List.nil_append, List.append_assoc]

def GetCR (w : World) (y : Cl × Int) (e : Ending) (w' : World) : Prop := ∃ z, e = .returned (.tuple #[.agg (clV y.1 z), .int .i64 y.2]) ∧ IsCl w' (fun k => w.heap.size ≤ k) y.1 z ∧ Below w.heap.size w w'

/-- What stays while a Client is read. -/
structure GcI (w : World) (q0 r g : Nat) (st : Cl) (z : Z10) (l : List UInt8) (b : Int) (wx : World) : Prop where
  cur : Cur wx r g l b
  bel : Below w.heap.size w wx
  zb : Blk wx w.heap.size 56 (clV clZ z10)
  sv : ClB wx q0 (fun k => q0 < k) st z
  hr : w.heap.size < r
  hg : w.heap.size < g
  hrq : r < q0
  hgq : g < q0
section
variable {w wx wy : World} {q0 r g : Nat} {st st' : Cl} {z z' : Z10} {l l' : List UInt8} {b b' : Int}
theorem GcI.step (h : GcI w q0 r g st z l b wx) (hc : Cur wy r g l' b') (ho : Only (· = r) wx wy) : GcI w q0 r g st z l' b' wy :=
  ⟨hc, below_only h.bel h.bel.size ho (by intro k hk e; have := h.hr; omega), h.zb.only ho (by have := h.hr; omega), h.sv.only ho (fun k hk => by have := h.hrq; subst hk; exact ⟨by omega, by omega⟩), h.hr, h.hg, h.hrq, h.hgq⟩
theorem GcI.below (h : GcI w q0 r g st z l b wx) (hb : Below wx.heap.size wx wy) : GcI w q0 r g st z l b wy :=
  ⟨h.cur.only (Only.of_below (r := fun _ => False) hb) (fun h => h) (fun h => h), h.bel.trans (hb.mono h.bel.size), h.zb.below hb, h.sv.only (Only.of_below (r := fun _ => False) hb) (fun _ h => h.elim), h.hr, h.hg, h.hrq, h.hgq⟩
theorem GcI.set (h : GcI w q0 r g st z l b wx) (hs : ClB wy q0 (fun k => q0 < k) st' z') (ho : Only (· = q0) wx wy) : GcI w q0 r g st' z' l b wy :=
  ⟨h.cur.only ho (by have := h.hrq; omega) (by have := h.hgq; omega), below_only h.bel h.bel.size ho (by intro k hk e; have := h.hr; have := h.hrq; omega), h.zb.only ho (by have := h.hr; have := h.hrq; omega), hs, h.hr, h.hg, h.hrq, h.hgq⟩
theorem GcI.drew (h : GcI w q0 r g st z l b wx) : GcI w q0 r g st z l b wx.drew := h.below ((Below.refl _ _).drew)
end

set_option maxHeartbeats 4000000 in
theorem getClient_c (S : Nat → Prop) (p : Option Addr) (n c : Nat) (b : List UInt8) (w : World) (hR : Rd w S p b) (hp : p = none → c = 0) (hl : b.length ≤ 70368744177664) (hn : b.length = n) :
    Calls Try.prog 18 #[.slice p n c] w (GetCR w (getC b)) := by
  have HR := Lib.hid (And.intro hR (And.intro hp hn))
  clear hR hp hn
  have hz := run_zeroCl
  obtain ⟨y, hy⟩ : ∃ y, y = getC b := ⟨_, rfl⟩
  rw [← hy]
  have HGS := Lib.hid hy
  clear hy
  go_enter Try.func18, Try.ntmps18
  go_upto_region 1 with (fail)
  have hB0 : Below w.heap.size w (w.alloc (.cells (clV clZ z10) 56)) := (Below.refl _ _).alloc (Nat.le_refl _) _
  have hb0 := Blk.new w 56 (clV clZ z10)
  generalize w.alloc (.cells (clV clZ z10) 56) = w0 at *
  have HR0 := Lib.hid (And.intro (HR.out.1.below hB0) (And.intro hB0 hb0))
  have hsz0 := hb0.lt
  clear hB0 hb0
  go_upto_region 3 with (go_at_call 42; refine (new_c S p n c b _ HR0.out.1 HR.out.2.1 (by omega) HR.out.2.2).mono ?_; rintro e w1 ⟨r, g, rfl, h1, h2, h3, hc, hb1⟩; have hgl := hc.glt; have hsz1 := hb1.size; have hB2 : Below w1.heap.size w1 (w1.alloc (.cells (clV clZ z10) 56)) := (Below.refl _ _).alloc (Nat.le_refl _) _; have H1 := Lib.hid (And.intro (hc.only (Only.of_below (r := fun _ => False) hB2) (fun h => h) (fun h => h)) (And.intro (HR0.out.2.1.trans ((hb1.trans (hB2.mono hsz1)).mono (by omega))) (And.intro ((HR0.out.2.2.below hb1).below hB2) (Blk.new w1 56 (clV clZ z10))))); have hsz2 := World.size_alloc w1 (.cells (clV clZ z10) 56); clear hc hb1 hB2)
  clear hz HR0
  generalize w1.alloc (.cells (clV clZ z10) 56) = w2 at *
  have I2 := H1
  have hm := mustS_left b 0 771 2
  have HM := Lib.hid (must_c r g b 0 771 2 w2 I2.out.1)
  have hy := HGS.out
  unfold getC at hy
  generalize mustS b 0 771 2 = m at *
  have hsr : r < w2.heap.size := by omega
  have HY0 := Lib.hid hy
  clear hy
  go_upto_region 4 with (go_at_call 43; refine HM.out.mono ?_; rintro e w3 ⟨rfl, hc, ho⟩; have I3 := Lib.hid (show Cur w3 r g m.1 m.2 ∧ Below w.heap.size w w3 ∧ Blk w3 w.heap.size 56 (clV clZ z10) ∧ Blk w3 w1.heap.size 56 (clV clZ z10) from ⟨hc, below_only I2.out.2.1 I2.out.2.1.size ho (by intro k hk e; omega), I2.out.2.2.1.only ho (by omega), I2.out.2.2.2.only ho (by omega)⟩); clear hc ho)
  clear I2 HM H1
  have ho32 := outS_32 m.1 m.2
  have hlo := leftS_le m.1 m.2 32
  have HBy := Lib.hid (fun wx (h : Cur wx r g m.1 m.2) => bytes_c r g m.1 m.2 32 wx h (by omega))
  have hy1 : y = gcV { clZ with R := rndG (outS m.1 m.2 32) } (leftS m.1 m.2 32) (badS m.1 m.2 32) := HY0.out
  clear HY0
  generalize outS m.1 m.2 32 = o at *
  generalize leftS m.1 m.2 32 = l1 at *
  generalize badS m.1 m.2 32 = b1 at *
  have HY1 := Lib.hid hy1
  clear hy1
  have hd3 : Cur w3.drew r g m.1 m.2 := I3.out.1.only ((Only.refl (fun _ => False) w3).drew) (fun h => h) (fun h => h)
  have HD := Lib.hid hd3
  clear hd3
  have hs3 : w1.heap.size < w3.heap.size := I3.out.2.2.2.lt
  have HFIT := Lib.hid (show 0 + (o.map B8).length ≤ (clV clZ z10).toList.length by rw [List.length_map, clV_len _ _ rfl]; omega)
  go_region_held3 (fun w' => True) (trivial) (first
    | (go_at_call 44; refine (HBy.out _ (by first | exact HD.out | exact I3.out.1)).mono ?_; rintro e w4 ⟨g', p', c', rfl, k1, hO, hc, hoq⟩; have ho : Only (· = r) w3 w4 := ⟨hoq.os, hoq.tape, hoq.output, hoq.size, hoq.block⟩; clear hoq; have H4 := Lib.hid (And.intro hO (And.intro hc (And.intro (I3.out.2.2.1.only ho (by omega)) (And.intro (I3.out.2.2.2.only ho (by omega)) (below_only I3.out.2.1 I3.out.2.1.size ho (by intro k hk e; omega)))))); have hs4 := ho.size; clear hO hc ho)
    | (refine step_copy_splice rfl (.tmp 13) (.tmp 15) 23 23 rfl 5 Try.underlying23 (by kernel_rfl) _ _ _ _ _ _ rfl rfl w1.heap.size 0 (clV clZ z10).toList 56 (by rw [Array.toArray_toList]; exact H4.out.2.2.2.1) (o.map B8) (by rw [List.length_map]; exact (Nat.min_eq_left ho32).symm) (fun h0 => ⟨rfl, rd_src H4.out.1.rd h0⟩) HFIT.out (oneCell_map _) w1.heap.size w4 (Below.refl _ _) (Nat.le_refl _) ?_; intro w5 hg5 hb5; have HG5 := Lib.hid (And.intro hg5.out hb5); clear hg5 hb5))
  have hRl : (rndG o).length = 32 := rndG_len ho32
  have hG5 : GcI w w1.heap.size r g { clZ with R := rndG o } z10 l1 b1 w5 := by
    have ho5 := Only.of_belowN HG5.out.2
    have hz := IsCl.zero w5 (fun k => w1.heap.size < k)
    refine ⟨H4.out.2.1.only ho5 (by omega) (by omega), below_only H4.out.2.2.2.2 H4.out.2.2.2.2.size ho5 (by intro k hk e; omega), H4.out.2.2.1.only ho5 (by omega), ⟨?_, ⟨hRl, hz.s1, hz.s2, hz.s3, hz.s4, hz.s5, hz.s6, hz.s7, hz.s8, hz.s9, hz.s10⟩⟩, by omega, by omega, h2, hgl⟩
    have h := HG5.out.1
    rw [splice_rndC clZ z10 o rfl ho32] at h
    exact h
  have G5 := Lib.hid hG5
  have hs5 := hG5.bel.size
  clear hG5 HG5 H4 I3 HD HFIT HBy
  generalize rndG o = R at *
  generalize w1.heap.size = q0 at *
  have hqw := G5.out.sv.b.lt
  have hrw := G5.out.cur.lt
  have hgw := G5.out.cur.glt
  have hwr := G5.out.hr
  generalize ({ clZ with R := R } : Cl) = s1 at *
  -- the session
  have hy2 := HY1.out
  clear HY1
  unfold gcV at hy2
  dsimp only at hy2
  have hlv := vecS_left l1 b1 1 0 32
  have HV := Lib.hid (fun wx (h : Cur wx r g l1 b1) => vector_c r g l1 b1 1 0 32 wx h (by omega))
  generalize vecS l1 b1 1 0 32 = v at *
  have HY2 := Lib.hid hy2
  clear hy2
  go_upto_region 6 with (go_at_call 45; refine (HV.out _ G5.out.cur).mono ?_; rintro e w7 ⟨g7, p7, c7, rfl, hg7, hO, hc, ho⟩; have hz7 := ho.size; have G7a := G5.out.step hc ho; have c32 := G7a.sv.cell 0; have f32 := G7a.sv.b.fr 32; have P7 := Lib.hid (G7a.set (G7a.sv.put (fun h => Nat.lt_irrefl _ h) 0 (.slice p7 v.1.length c7) { s1 with ses := v.1 } { z10 with p1 := p7, n1 := v.1.length, c1 := c7 } rfl rfl ⟨G7a.sv.i.len, SlS.of_own hO rfl (show q0 < g7 by omega), G7a.sv.i.s2, G7a.sv.i.s3, G7a.sv.i.s4, G7a.sv.i.s5, G7a.sv.i.s6, G7a.sv.i.s7, G7a.sv.i.s8, G7a.sv.i.s9, G7a.sv.i.s10⟩) ((Only.refl (fun k => k = q0) _).setCell _ _ (.inl rfl))); clear hc ho hO G7a hg7)
  have hq7 := P7.out.sv.b.lt
  generalize w7.setCell ⟨q0, 32, none⟩ (.slice p7 v.1.length c7) = w8 at *
  generalize ({ z10 with p1 := p7, n1 := v.1.length, c1 := c7 } : Z10) = z1 at *
  generalize ({ s1 with ses := v.1 } : Cl) = s2 at *
  clear G5 HV
  -- the suites
  have hy3 := HY2.out
  clear HY2
  unfold gcN at hy3
  dsimp only at hy3
  have hln := numsS_left v.2.1 v.2.2 2 8
  have HN := Lib.hid (fun wx (h : Cur wx r g v.2.1 v.2.2) => numbers_c r g v.2.1 v.2.2 2 8 wx h (by omega))
  generalize numsS v.2.1 v.2.2 2 8 = u at *
  have HY3 := Lib.hid hy3
  clear hy3
  go_upto_region 7 with (go_at_call 54; refine (HN.out _ P7.out.cur).mono ?_; rintro e w9 ⟨p9, n9, c9, rfl, hS, hc, ho⟩; have hz9 := ho.size; have G9 := P7.out.step hc ho; have c33 := G9.sv.cell 1; have f33 := G9.sv.b.fr 33; have P9 := Lib.hid (G9.set (G9.sv.put (fun h => Nat.lt_irrefl _ h) 1 (.slice p9 n9 c9) { s2 with suites := u.1 } { z1 with p2 := p9, n2 := n9, c2 := c9 } rfl rfl ⟨G9.sv.i.len, G9.sv.i.s1, hS.mono (fun k _ hk => by omega), G9.sv.i.s3, G9.sv.i.s4, G9.sv.i.s5, G9.sv.i.s6, G9.sv.i.s7, G9.sv.i.s8, G9.sv.i.s9, G9.sv.i.s10⟩) ((Only.refl (fun k => k = q0) _).setCell _ _ (.inl rfl))); clear hc ho hS G9)
  have hq9 := P9.out.sv.b.lt
  generalize w9.setCell ⟨q0, 33, none⟩ (.slice p9 n9 c9) = w10 at *
  generalize ({ z1 with p2 := p9, n2 := n9, c2 := c9 } : Z10) = z2 at *
  generalize ({ s2 with suites := u.1 } : Cl) = s3 at *
  clear P7 HN
  -- the compression
  have hy4 := HY3.out
  clear HY3
  unfold gcC at hy4
  dsimp only at hy4
  have hlc := vecS_left u.2.1 u.2.2 1 1 1
  have HC := Lib.hid (fun wx (h : Cur wx r g u.2.1 u.2.2) => vector_c r g u.2.1 u.2.2 1 1 1 wx h (by omega))
  generalize vecS u.2.1 u.2.2 1 1 1 = a at *
  have HY4 := Lib.hid hy4
  clear hy4
  obtain ⟨bq, hbq⟩ : ∃ bq, bq = decide (a.1 = [0]) := ⟨_, rfl⟩
  have HBQ := Lib.hid hbq
  clear hbq
  go_upto_if 28 with (first
    | (go_at_call 45; refine (HC.out _ P9.out.cur).mono ?_; rintro e w11 ⟨g11, p11, c11, rfl, hg11, hO, hc, ho⟩; have hz11 := ho.size; have hG11 := P9.out.step hc ho; have hB11 : Below w11.heap.size w11 (w11.alloc (.cells #[.int .u8 0] 5)) := (Below.refl _ _).alloc (Nat.le_refl _) _; have G11 := Lib.hid (And.intro (hG11.below hB11) (And.intro (Own.keep hO hB11).rd (Rd.lit w11 [0]))); clear hc ho hO hG11 hB11)
    | (go_at_call 55; refine (bytesEq_c _ _ p11 _ a.1.length c11 1 1 a.1 [0] _ G11.out.2.1 rfl G11.out.2.2 rfl).mono ?_; rintro e w12 ⟨rfl, rfl⟩; rw [← HBQ.out]))
  have hcm : (if bq = true then a.2.2 else rm a.2.2 3) = cmpB a.1 a.2.2 := by
    unfold cmpB
    rw [HBQ.out]
    simp only [decide_eq_true_eq]
  have HCM := Lib.hid hcm
  clear hcm
  go_cut [30] (fun _ wx => GcI w q0 r g s3 z2 a.2.1 (if bq = true then a.2.2 else rm a.2.2 3) wx)
  case first =>
    cases bq
    · go_wp2_with (go_at_call 49; refine (fail_c r g a.2.1 a.2.2 _ G11.out.1.cur).mono ?_; rintro e w12 ⟨rfl, hc, ho⟩; have G13 := Lib.hid (G11.out.1.step hc ho); clear hc ho)
      go_meet
      rw [if_neg Bool.false_ne_true]
      exact G13.out
    · go_wp2
      go_meet
      rw [if_pos trivial]
      exact G11.out.1
  case rest =>
    rw [HCM.out] at hcut
    have G14 := Lib.hid hcut
    have hq10 := G14.out.sv.b.lt
    have hr10 := G14.out.cur.lt
    have hg10 := G14.out.cur.glt
    clear hcut G11 HCM HBQ HC P9
    have hy5 := HY4.out
    clear HY4
    generalize cmpB a.1 a.2.2 = b6 at *
    unfold gcX at hy5
    have hX := exts_c (client_ext q0) (fun k => q0 < k) s3 r g a.2.1 b6 _ ⟨z2, G14.out.sv⟩ G14.out.cur (fun h => Nat.lt_irrefl _ h) (by omega) (by omega) (by omega) (by omega)
    dsimp only at hy5
    generalize vecS a.2.1 b6 2 0 65535 = d at *
    generalize extsL cliF (d.1.length + 1) s3 [] d.1 0 = x at *
    generalize insB d.2.2 x.2 = b5 at *
    have HX := Lib.hid hX
    have HY5 := Lib.hid hy5
    clear hX hy5
    go_upto_region 11 with (go_at_call 47; refine HX.out.mono ?_; rintro e w11 ⟨rfl, hc, ⟨z4, hsv⟩, ho⟩; have G15 := Lib.hid (show GcI w q0 r g x.1 z4 d.2.1 b5 w11 from ⟨hc, below_only G14.out.bel G14.out.bel.size ho (by intro k hk e; have := G14.out.hr; omega), G14.out.zb.only ho (by have := G14.out.hr; omega), hsv.mono (fun k _ hk => by omega), G14.out.hr, G14.out.hg, G14.out.hrq, G14.out.hgq⟩); clear hc hsv ho)
    clear G14 HX
    have hy5 := HY5.out
    clear HY5
    unfold gcZ at hy5
    have hdn := fun wx (h : Cur wx r g d.2.1 b5) => done_c r g d.2.1 b5 wx h
    generalize doneS d.2.1 b5 = dd at *
    have HD := Lib.hid hdn
    clear hdn
    have hlt0 := G15.out.zb.lt
    by_cases hd : dd = 0
    · have hyy : y = (x.1, 0) := by rw [hy5, if_pos hd]
      have HYY := Lib.hid hyy
      clear hyy hy5
      subst hd
      go_wp2_with (first
        | (go_at_call 50; refine (HD.out _ G15.out.cur).mono ?_; rintro e w15 ⟨rfl, rfl⟩)
        | (refine wpList_load_mid rfl 56 (.tmp 5) rfl q0 0 rfl (clV x.1 z4).toList _ G15.out.sv.b.range Try.underlying56 rfl (by rw [clV_len _ _ G15.out.sv.i.len]; exact Try.infoCl) ?_; rw [Array.toArray_toList])
        | (refine st_blk rfl 56 (.tmp 2) (.tmp 40) rfl w.heap.size (clV x.1 z4) rfl rfl 56 (clV clZ z10) G15.out.zb (by rw [clV_size _ _ G15.out.sv.i.len]; exact Try.infoCl) (by rw [clV_size _ _ rfl, clV_size _ _ G15.out.sv.i.len]) (clV_ones _ _) ?_; intro w16 hb16 ho16; have H16 := Lib.hid (And.intro hb16 ho16); clear hb16 ho16))
      refine bodyPost_ret (v := .tuple #[.agg (clV x.1 z4), .int .i64 0]) (results_ct (P := Try.prog) 2 3 Try.results18 _ _ w.heap.size _ _ _ (.int .i64 0) rfl rfl H16.out.1 Try.underlying56 rfl (by rw [clV_size _ _ G15.out.sv.i.len]; exact Try.infoCl)) rfl ?_
      rw [HYY.out]
      have hw0 := G15.out.hr
      have hw1 := G15.out.hrq
      exact ⟨z4, rfl, (((G15.out.sv.i.mono (T := fun k => w.heap.size < k) (fun k _ hk => by omega)).only H16.out.2 (by intro k hk e; omega)).mono (fun k _ h => Nat.le_of_lt h)), below_only G15.out.bel G15.out.bel.size H16.out.2 (by intro k hk e; omega)⟩
    · have hyy : y = (clZ, dd) := by rw [hy5, if_neg hd]
      have HYY := Lib.hid hyy
      have hdb : (dd != 0) = true := by simpa using hd
      clear hyy hy5 hd
      go_wp2_with (first
        | (go_at_call 50; refine (HD.out _ G15.out.cur).mono ?_; rintro e w15 ⟨rfl, rfl⟩)
        | (refine wpList_build_eq rfl 56 _ rfl (C := clV clZ z10) rfl Try.built_clZ ?_)
        | (refine st_blk rfl 56 (.tmp 2) (.tmp 38) rfl w.heap.size (clV clZ z10) rfl rfl 56 (clV clZ z10) G15.out.zb (by rw [clV_size _ _ rfl]; exact Try.infoCl) rfl (clV_ones _ _) ?_; intro w16 hb16 ho16; have H16 := Lib.hid (And.intro hb16 ho16); clear hb16 ho16))
      refine bodyPost_ret (v := .tuple #[.agg (clV clZ z10), .int .i64 dd]) (results_ct (P := Try.prog) 2 3 Try.results18 _ _ w.heap.size _ _ _ (.int .i64 dd) rfl rfl H16.out.1 Try.underlying56 rfl (by rw [clV_size _ _ rfl]; exact Try.infoCl)) rfl ?_
      rw [HYY.out]
      exact ⟨z10, rfl, IsCl.zero _ _, below_only G15.out.bel G15.out.bel.size H16.out.2 (by intro k hk e; omega)⟩
end Go.Proofs.Ytegmimnhkohaoaa
/-
  Plain laws: what hello.PutServer puts is what the document puts. No condition.
-/
namespace Go.Proofs.Ytegmimnhkohaoaa
open Go.RowKit Go.Kx
set_option linter.unusedVariables false
set_option linter.unusedSimpArgs false

/-- A writer that has L, if ok; else it is bad. -/
def Is (x : WS) (L : List UInt8) (ok : Bool) : Prop := (ok = true → x = (L, false)) ∧ (ok = false → x.2 = true)
theorem Is.nil : Is ([], false) [] true := ⟨fun _ => rfl, fun h => by cases h⟩
theorem Is.eq {x : WS} {L M : List UInt8} {a b : Bool} (h : Is x L a) (hb : a = b) (hL : b = true → L = M) : Is x M b := by
  subst hb
  exact ⟨fun hk => by rw [h.1 hk, hL hk], h.2⟩
theorem wU_bad {x : WS} (n W : Int) (h : x.2 = true) : (wU x n W).2 = true := by unfold wU; split; exact h; rfl
theorem wV_bad {x : WS} (v : List UInt8) (W l m : Int) (h : x.2 = true) : (wV x v W l m).2 = true := by unfold wV; split; simp [h]; rfl
theorem Is.M {x : WS} {L : List UInt8} {ok : Bool} (h : Is x L ok) (b : Bool) : Is (wM x b) L (ok && b) := by
  constructor
  · intro hk
    simp only [Bool.and_eq_true] at hk
    rw [h.1 hk.1]
    unfold wM
    simp [hk.2]
  · intro hk
    unfold wM
    cases ok
    · simp [h.2 rfl]
    · simp at hk
      simp [hk]
theorem putOk_2 (n : Int) : putOk n 2 ↔ in16 n = true := by
  unfold putOk in16
  have e : (256 : Int) ^ (2 : Int).toNat = 65536 := by decide
  rw [e]
  simp
  omega
theorem putOk_1 (n : Int) : putOk n 1 ↔ (0 ≤ n ∧ n ≤ 255) := by
  unfold putOk
  have e : (256 : Int) ^ (1 : Int).toNat = 256 := by decide
  rw [e]
  omega
theorem Is.U {x : WS} {L : List UInt8} {ok : Bool} (h : Is x L ok) (n : Int) : Is (wU x n 2) (L ++ be n.toNat 2) (ok && in16 n) := by
  constructor
  · intro hk
    simp only [Bool.and_eq_true] at hk
    rw [h.1 hk.1]
    unfold wU
    rw [if_pos ((putOk_2 n).2 hk.2)]
    rfl
  · intro hk
    cases ok
    · exact wU_bad n 2 (h.2 rfl)
    · simp only [Bool.true_and] at hk
      unfold wU
      rw [if_neg (fun hh => by rw [(putOk_2 n).1 hh] at hk; cases hk)]
theorem Is.U0 {x : WS} {L : List UInt8} {ok : Bool} (h : Is x L ok) : Is (wU x 0 1) (L ++ [0]) ok := by
  constructor
  · intro hk
    rw [h.1 hk]
    unfold wU
    rw [if_pos ((putOk_1 0).2 (by omega))]
    rfl
  · intro hk
    exact wU_bad 0 1 (h.2 hk)
theorem Is.V2 {x : WS} {L : List UInt8} {ok : Bool} (h : Is x L ok) (v : List UInt8) (l m : Nat) (hm : m ≤ 65535) : Is (wV x v 2 l m) (L ++ vecL 2 v) (ok && (decide (l ≤ v.length) && decide (v.length ≤ m))) := by
  constructor
  · intro hk
    simp only [Bool.and_eq_true, decide_eq_true_eq] at hk
    rw [h.1 hk.1]
    unfold wV
    rw [if_pos ((putOk_2 _).2 (by unfold in16; simp; omega))]
    have h1 : decide ((l : Int) ≤ (v.length : Int)) = true := decide_eq_true (by omega)
    have h2 : decide ((v.length : Int) ≤ (m : Int)) = true := decide_eq_true (by omega)
    rw [h1, h2]
    rfl
  · intro hk
    cases ok
    · exact wV_bad v 2 l m (h.2 rfl)
    · simp only [Bool.true_and] at hk
      unfold wV
      split
      · have : (decide ((l : Int) ≤ (v.length : Int)) && decide ((v.length : Int) ≤ (m : Int))) = false := by
          rw [← hk]
          congr 1 <;> rw [Bool.eq_iff_iff] <;> simp
        simp only [this]
        simp
      · rfl
theorem Is.V1 {x : WS} {L : List UInt8} {ok : Bool} (h : Is x L ok) (v : List UInt8) (l m : Nat) (hm : m ≤ 255) : Is (wV x v 1 l m) (L ++ vecL 1 v) (ok && (decide (l ≤ v.length) && decide (v.length ≤ m))) := by
  constructor
  · intro hk
    simp only [Bool.and_eq_true, decide_eq_true_eq] at hk
    rw [h.1 hk.1]
    unfold wV
    rw [if_pos ((putOk_1 _).2 (by omega))]
    have h1 : decide ((l : Int) ≤ (v.length : Int)) = true := decide_eq_true (by omega)
    have h2 : decide ((v.length : Int) ≤ (m : Int)) = true := decide_eq_true (by omega)
    rw [h1, h2]
    rfl
  · intro hk
    cases ok
    · exact wV_bad v 1 l m (h.2 rfl)
    · simp only [Bool.true_and] at hk
      unfold wV
      split
      · have : (decide ((l : Int) ≤ (v.length : Int)) && decide ((v.length : Int) ≤ (m : Int))) = false := by
          rw [← hk]
          congr 1 <;> rw [Bool.eq_iff_iff] <;> simp
        simp only [this]
        simp
      · rfl
theorem Is.N2 {x y : WS} {L M : List UInt8} {ok ok2 : Bool} (h : Is x L ok) (k : Is y M ok2) : Is (wN x y 2) (L ++ vecL 2 M) ((ok && ok2) && decide (M.length ≤ 65535)) := by
  unfold wN
  cases ok2
  · have hb : (wM x (!y.2)).2 = true := by unfold wM; simp [k.2 rfl]
    exact ⟨fun hk => by simp at hk, fun _ => wV_bad _ _ _ _ hb⟩
  · rw [k.1 rfl]
    have h2 := (h.M (!false)).V2 M 0 65535 (Nat.le_refl _)
    refine h2.eq ?_ (fun _ => rfl)
    simp
theorem u16L_in {n : Int} (h : in16 n = true) : be n.toNat 2 = u16L n := by
  unfold in16 at h
  simp only [Bool.and_eq_true, decide_eq_true_eq] at h
  obtain ⟨N, rfl⟩ : ∃ N : Nat, n = N := ⟨n.toNat, by omega⟩
  rw [u16L_nat N (by omega)]
  rfl
theorem Is.P {x y : WS} {L M : List UInt8} {ok ok2 : Bool} (h : Is x L ok) (kind : Nat) (hk : kind ≤ 65535) (there : Bool) (k : Is y M ok2) :
    Is (wP x kind there y) (if there then L ++ rextL kind M else L) (ok && (!there || (ok2 && decide (M.length ≤ 65535)))) := by
  unfold wP
  cases there
  · simpa using h
  · simp only [if_true, Bool.not_true, Bool.false_or]
    have hin : in16 (kind : Int) = true := by unfold in16; simp; omega
    cases ok2
    · have hb : (wM x (!y.2)).2 = true := by unfold wM; simp [k.2 rfl]
      exact ⟨fun hk => by simp at hk, fun _ => wV_bad _ _ _ _ (wU_bad _ _ hb)⟩
    · rw [k.1 rfl]
      have h2 := (((h.M (!false)).U kind).V2 M 0 65535 (Nat.le_refl _))
      refine h2.eq ?_ (fun _ => ?_)
      · rw [hin]; simp
      · unfold rextL
        rw [u16L_in hin, List.append_assoc]
        rfl
theorem Is.app {x : WS} {L : List UInt8} {ok : Bool} (h : Is x L ok) (M : List UInt8) : Is (x.1 ++ M, x.2) (L ++ M) ok :=
  ⟨fun hk => by rw [h.1 hk], fun hk => h.2 hk⟩

/-- What PutServer puts: the document's bytes, if it may be put. -/
theorem putS_is (s : Sv) : Is (putS s) (rputL s) (rokS s) := by
  have h1 : Is (yA1 s) (be s.ver.toNat 2) (in16 s.ver) := (Is.nil.U s.ver).eq (by simp) (fun _ => rfl)
  have h4 : Is (yA4 s) (be s.psk.toNat 2) (in16 s.psk) := (Is.nil.U s.psk).eq (by simp) (fun _ => rfl)
  have h3 : Is (yA3 s) (vecL 2 s.cook) (decide (1 ≤ s.cook.length) && decide (s.cook.length ≤ 64)) := (Is.nil.V2 s.cook 1 64 (by omega)).eq (by simp) (fun _ => rfl)
  have h2 : Is (yA2 s) (if s.retry then be s.grp.toNat 2 else be s.grp.toNat 2 ++ vecL 2 s.key) (in16 s.grp && (s.retry || (decide (1 ≤ s.key.length) && decide (s.key.length ≤ 64)))) := by
    unfold yA2
    cases hr : s.retry
    · simp only [Bool.false_eq_true, if_false, Bool.false_or]
      exact ((Is.nil.U s.grp).V2 s.key 1 64 (by omega)).eq (by simp) (fun _ => by simp)
    · simp only [if_true, Bool.true_or, Bool.and_true]
      exact (Is.nil.U s.grp).eq (by simp) (fun _ => rfl)
  have hA := (((Is.nil.P 43 (by omega) true h1).P 51 (by omega) (s.grp != 0) h2).P 44 (by omega) (s.retry && decide (0 < s.cook.length)) h3).P 41 (by omega) (decide (0 ≤ s.psk)) h4
  have hx := (((((Is.nil.M (fitsS s)).U 771).app (rndS s)).V1 s.ses 0 32 (by omega)).U s.suite).U0.N2 hA
  refine Is.eq hx ?_ ?_
  · have hm : max s.psk 0 = if 0 ≤ s.psk then s.psk else 0 := by split <;> omega
    rw [Bool.eq_iff_iff]
    unfold rokS ok1B ok2B fitsS all16B shareB
    rw [hm]
    by_cases hr : s.retry = true <;> by_cases hg : s.grp = 0 <;> by_cases hp : 0 ≤ s.psk <;> by_cases hR : s.R = retryL <;> by_cases hc : 0 < s.cook.length <;>
      simp [hr, hg, hp, hR, hc, in16, vecL_len, rextL_len, be_length, -List.length_eq_zero_iff] <;> (try omega)
  · intro hok
    have hm : max s.psk 0 = if 0 ≤ s.psk then s.psk else 0 := by split <;> omega
    unfold rokS ok1B ok2B all16B at hok
    rw [hm] at hok
    have i1 : in16 s.suite = true := by simp at hok; exact hok.1.2.1.1
    have i2 : in16 s.ver = true := by simp at hok; exact hok.1.2.1.2.1
    have i3 : in16 s.grp = true := by simp at hok; exact hok.1.2.1.2.2.1
    have i4 : 0 ≤ s.psk → in16 s.psk = true := by
      intro h
      rw [if_pos h] at hok
      simp at hok
      exact hok.1.2.1.2.2.2
    have i5 : s.retry = false → s.cook.length = 0 := by
      intro h
      rw [h] at hok
      simp [-List.length_eq_zero_iff] at hok
      exact hok.2.1.2
    have e771 : be (771 : Int).toNat 2 = [3, 3] := rfl
    unfold rputL e4S e3S e2S e1S vS
    rw [u16L_in i1, u16L_in i2, u16L_in i3, e771]
    clear hx hA h1 h2 h3 h4 hok hm
    by_cases hr : s.retry = true
    · by_cases hg : s.grp = 0 <;> by_cases hp : 0 ≤ s.psk <;> by_cases hc : s.cook.length = 0 <;>
        first
          | (have h5 := u16L_in (i4 hp); have hc2 : ¬ 0 < s.cook.length := (by omega); simp [hr, hg, hp, hc, hc2, h5, -List.length_eq_zero_iff])
          | (have h5 := u16L_in (i4 hp); have hc2 : 0 < s.cook.length := (by omega); simp [hr, hg, hp, hc, hc2, h5, -List.length_eq_zero_iff])
          | (have hc2 : ¬ 0 < s.cook.length := (by omega); simp [hr, hg, hp, hc, hc2, -List.length_eq_zero_iff])
          | (have hc2 : 0 < s.cook.length := (by omega); simp [hr, hg, hp, hc, hc2, -List.length_eq_zero_iff])
    · have hr' : s.retry = false := by simpa using hr
      have hc := i5 hr'
      by_cases hg : s.grp = 0 <;> by_cases hp : 0 ≤ s.psk <;>
        first
          | (have h5 := u16L_in (i4 hp); simp [hr', hg, hp, hc, h5, -List.length_eq_zero_iff])
          | simp [hr', hg, hp, hc, -List.length_eq_zero_iff]
end Go.Proofs.Ytegmimnhkohaoaa
/-
  Plain laws: what PutServer puts GetServer reads again. No condition.
-/
namespace Go.Proofs.Ytegmimnhkohaoaa
open Go.RowKit Go.Kx
set_option linter.unusedVariables false
set_option linter.unusedSimpArgs false

theorem rU_be (n W : Nat) (hW : 1 ≤ W ∧ W ≤ 4) (h : n < 256 ^ W) (t : List UInt8) : rU (be n W ++ t) 0 (W : Int) = ((n : Int), t, 0) := by
  obtain ⟨a1, a2, a3⟩ := S_app (be n W) t (W : Int) (by rw [be_length])
  unfold rU
  rw [wb_ok hW, a1, a2, a3, beN_be h]
theorem u16L_be {n : Int} (h : in16 n = true) : ∃ N : Nat, n = (N : Int) ∧ N < 65536 ∧ u16L n = be N 2 := by
  have h2 := u16L_in h
  unfold in16 at h
  simp only [Bool.and_eq_true, decide_eq_true_eq] at h
  exact ⟨n.toNat, by omega, by omega, h2.symm⟩
theorem rU_u16 {n : Int} (h : in16 n = true) (t : List UInt8) : rU (u16L n ++ t) 0 2 = (n, t, 0) := by
  obtain ⟨N, rfl, h2, h3⟩ := u16L_be h
  rw [h3]
  exact rU_be N 2 (by omega) (by simpa using h2) t
theorem rU_u16' {n : Int} (h : in16 n = true) : rU (u16L n) 0 2 = (n, [], 0) := by
  have := rU_u16 h []
  rwa [List.append_nil] at this
theorem rU_one (t : List UInt8) : rU (0 :: t) 0 1 = (0, t, 0) := rU_be 0 1 (by omega) (by decide) t
theorem mustS_u16 {n : Int} (h : in16 n = true) (t : List UInt8) : mustS (u16L n ++ t) 0 n 2 = (t, 0) := by
  unfold mustS
  rw [rU_u16 h]
  simp
theorem mustS_zero (t : List UInt8) : mustS (0 :: t) 0 0 1 = (t, 0) := by
  unfold mustS
  rw [rU_one]
  simp
theorem vecS_1 (v t : List UInt8) (l m : Nat) (h1 : l ≤ v.length) (h2 : v.length ≤ m) (h3 : m ≤ 255) : vecS (vecL 1 v ++ t) 0 1 l m = (v, t, 0) := by
  unfold vecL
  rw [List.append_assoc]
  exact vec_read (W := 1) (by omega) (by simp only [Nat.pow_one]; omega) (by omega) (by omega)
theorem vecS_2 (v t : List UInt8) (l m : Nat) (h1 : l ≤ v.length) (h2 : v.length ≤ m) (h3 : m ≤ 65535) : vecS (vecL 2 v ++ t) 0 2 l m = (v, t, 0) := by
  unfold vecL
  rw [List.append_assoc]
  exact vec_read (W := 2) (by omega) (by simp only [Nat.reducePow]; omega) (by omega) (by omega)
theorem vecS_2' (v : List UInt8) (l m : Nat) (h1 : l ≤ v.length) (h2 : v.length ≤ m) (h3 : m ≤ 65535) : vecS (vecL 2 v) 0 2 l m = (v, [], 0) := by
  have := vecS_2 v [] l m h1 h2 h3
  rwa [List.append_nil] at this
theorem headS_ext (had : List Int) (kind : Int) (hin : in16 kind = true) (body t : List UInt8) (hb : body.length ≤ 65535) (hn : kind ∉ had) : headS had (rextL kind body ++ t) = (kind, body, t, 0) := by
  unfold headS rextL
  have e : u16L kind ++ (be body.length 2 ++ body) ++ t = u16L kind ++ (vecL 2 body ++ t) := by unfold vecL; simp
  rw [e, rU_u16 hin]
  have h2 := vecS_2 body t 0 65535 (by omega) hb (by omega)
  simp only [Int.ofNat_zero] at h2
  have h3 : vecS (vecL 2 body ++ t) 0 2 0 65535 = (body, t, 0) := h2
  simp only [h3, if_neg hn]
section
variable {σ : Type} (F : σ → Int → List UInt8 → Bool → σ × List UInt8 × Int)
theorem extsL_ext (n : Nat) (hn : 0 < n) (st st' : σ) (had : List Int) (kind : Int) (hk : in16 kind = true) (body t : List UInt8) (hb : body.length ≤ 65535) (hh : kind ∉ had) (hF : F st kind body (decide (t = [])) = (st', [], 0)) :
    extsL F n st had (rextL kind body ++ t) 0 = extsL F (n - 1) st' (kind :: had) t 0 := by
  obtain ⟨m, rfl⟩ : ∃ m, n = m + 1 := ⟨n - 1, by omega⟩
  rw [extsL_go F m st had _ (by intro h; have := congrArg List.length h; rw [List.length_append, rextL_len] at this; simp at this), headS_ext had kind hk body t hb hh]
  simp only [hF]
  rfl
theorem extsL_ext' (n : Nat) (hn : 0 < n) (st st' : σ) (had : List Int) (kind : Int) (hk : in16 kind = true) (body : List UInt8) (hb : body.length ≤ 65535) (hh : kind ∉ had) (hF : F st kind body true = (st', [], 0)) :
    extsL F n st had (rextL kind body) 0 = (st', [], 0) := by
  have h := extsL_ext F n hn st st' had kind hk body [] hb hh (by simpa using hF)
  rw [List.append_nil] at h
  rw [h, extsL_stop _ _ _ _ _ _ (.inl rfl)]
end

theorem srvF_43 (st : Sv) {n : Int} (h : in16 n = true) (last : Bool) : srvF st 43 (u16L n) last = ({ st with ver := n }, [], 0) := by
  unfold srvF
  rw [if_pos rfl, rU_u16' h]
theorem srvF_41 (st : Sv) {n : Int} (h : in16 n = true) (last : Bool) (hr : st.retry = false) : srvF st 41 (u16L n) last = ({ st with psk := n }, [], 0) := by
  unfold srvF
  rw [if_neg (by decide), if_neg (by decide), if_neg (by decide), if_pos rfl, hr, if_neg Bool.false_ne_true, rU_u16' h]
theorem srvF_44 (st : Sv) (v : List UInt8) (last : Bool) (hr : st.retry = true) (h1 : 1 ≤ v.length) (h2 : v.length ≤ 64) : srvF st 44 (vecL 2 v) last = ({ st with cook := v }, [], 0) := by
  unfold srvF
  rw [if_neg (by decide), if_neg (by decide), if_pos rfl, hr, if_pos rfl]
  have h := vecS_2' v 1 64 h1 h2 (by omega)
  have h' : vecS (vecL 2 v) 0 2 1 64 = (v, [], 0) := h
  rw [h']
theorem srvF_51r (st : Sv) {n : Int} (h : in16 n = true) (last : Bool) (hr : st.retry = true) (hn : n ≠ 0) : srvF st 51 (u16L n) last = ({ st with grp := n }, [], 0) := by
  unfold srvF
  rw [if_neg (by decide), if_pos rfl, hr, if_pos rfl, rU_u16' h]
  simp [hn, hr]
theorem srvF_51 (st : Sv) {n : Int} (h : in16 n = true) (v : List UInt8) (last : Bool) (hr : st.retry = false) (hn : n ≠ 0) (h1 : 1 ≤ v.length) (h2 : v.length ≤ 64) : srvF st 51 (u16L n ++ vecL 2 v) last = ({ st with grp := n, key := v }, [], 0) := by
  unfold srvF
  rw [if_neg (by decide), if_pos rfl, hr, if_neg Bool.false_ne_true, rU_u16 h]
  have h3 := vecS_2' v 1 64 h1 h2 (by omega)
  have h' : vecS (vecL 2 v) 0 2 1 64 = (v, [], 0) := h3
  simp only [h', if_neg hn]

/-- What comes back. -/
def backS (s : Sv) : Sv := if s.retry then { s with R := List.replicate 32 0 } else s
theorem rokS_in {s : Sv} (h : rokS s = true) : in16 s.suite = true ∧ in16 s.ver = true ∧ in16 s.grp = true ∧ (0 ≤ s.psk → in16 s.psk = true) ∧ -1 ≤ s.psk := by
  have hm : max s.psk 0 = if 0 ≤ s.psk then s.psk else 0 := by split <;> omega
  unfold rokS ok1B all16B at h
  rw [hm] at h
  simp at h
  refine ⟨h.1.2.1.1, h.1.2.1.2.1, h.1.2.1.2.2.1, fun hp => ?_, h.1.2.2.1⟩
  have := h.1.2.1.2.2.2
  rwa [if_pos hp] at this
theorem rokS_retry {s : Sv} (h : rokS s = true) (hr : s.retry = true) : s.key = [] ∧ s.psk = -1 ∧ (s.grp ≠ 0 ∨ 0 < s.cook.length) := by
  unfold rokS ok2B at h
  rw [hr] at h
  simp at h
  exact ⟨h.2.1.1, h.2.1.2, h.2.2⟩
theorem rokS_plain {s : Sv} (h : rokS s = true) (hr : s.retry = false) : s.R ≠ retryL ∧ s.cook = [] ∧ (if s.grp = 0 then s.key = [] else 1 ≤ s.key.length ∧ s.key.length ≤ 64) := by
  unfold rokS ok2B shareB at h
  rw [hr] at h
  simp at h
  refine ⟨h.2.1.1, h.2.1.2, ?_⟩
  split
  · rename_i hg
    have := h.2.2
    rw [if_pos hg] at this
    simpa using this
  · rename_i hg
    have := h.2.2
    rw [if_neg hg] at this
    exact this.2
theorem exts_back (s : Sv) (h : rokS s = true) (R ses : List UInt8) (suite : Int) (n : Nat) (hn : 4 ≤ n) :
    extsL srvF n ⟨R, ses, suite, 771, 0, [], s.retry, [], -1⟩ [] (e4S s) 0 = (⟨R, ses, suite, s.ver, s.grp, s.key, s.retry, s.cook, s.psk⟩, [], 0) := by
  obtain ⟨i1, i2, i3, i4, i5⟩ := rokS_in h
  obtain ⟨l1, l2, l3⟩ := rokS_le h
  obtain ⟨sR, sses, ssuite, sver, sgrp, skey, sretry, scook, spsk⟩ := s
  simp only at i1 i2 i3 i4 i5 l1 l2 l3 ⊢
  cases sretry
  · obtain ⟨-, hc, hg⟩ := rokS_plain h rfl
    simp only at hc hg
    subst hc
    unfold e4S e3S e2S e1S vS
    simp only [List.length_nil, if_true, Bool.false_eq_true, if_false]
    by_cases hg0 : sgrp = 0
    · subst hg0
      rw [if_pos rfl] at hg
      subst hg
      simp only [if_true]
      by_cases hp : 0 ≤ spsk
      · rw [if_pos hp, extsL_ext srvF n (by omega) _ _ [] 43 (by decide) (u16L sver) _ (by rw [u16L_len]; omega) (by simp) (srvF_43 _ i2 _)]
        exact extsL_ext' srvF _ (by omega) _ _ _ 41 (by decide) _ (by rw [u16L_len]; omega) (by simp) (srvF_41 _ (i4 hp) _ rfl)
      · obtain rfl : spsk = -1 := by omega
        rw [if_neg hp]
        exact extsL_ext' srvF _ (by omega) _ _ _ 43 (by decide) _ (by rw [u16L_len]; omega) (by simp) (srvF_43 _ i2 _)
    · rw [if_neg hg0] at hg
      rw [if_neg hg0]
      have hl : (u16L sgrp ++ vecL 2 skey).length ≤ 65535 := by rw [List.length_append, u16L_len, vecL_len]; omega
      by_cases hp : 0 ≤ spsk
      · rw [if_pos hp, List.append_assoc, extsL_ext srvF n (by omega) _ _ [] 43 (by decide) (u16L sver) _ (by rw [u16L_len]; omega) (by simp) (srvF_43 _ i2 _),
          extsL_ext srvF _ (by omega) _ _ _ 51 (by decide) _ _ hl (by simp) (srvF_51 _ i3 _ _ rfl hg0 hg.1 hg.2)]
        exact extsL_ext' srvF _ (by omega) _ _ _ 41 (by decide) _ (by rw [u16L_len]; omega) (by simp) (srvF_41 _ (i4 hp) _ rfl)
      · obtain rfl : spsk = -1 := by omega
        rw [if_neg hp, extsL_ext srvF n (by omega) _ _ [] 43 (by decide) (u16L sver) _ (by rw [u16L_len]; omega) (by simp) (srvF_43 _ i2 _)]
        exact extsL_ext' srvF _ (by omega) _ _ _ 51 (by decide) _ hl (by simp) (srvF_51 _ i3 _ _ rfl hg0 hg.1 hg.2)
  · obtain ⟨hk, hp, hg⟩ := rokS_retry h rfl
    simp only at hk hp hg
    subst hk hp
    have hp' : ¬ (0 : Int) ≤ -1 := by omega
    unfold e4S e3S e2S e1S vS
    simp only [if_true, if_neg hp']
    by_cases hg0 : sgrp = 0
    · subst hg0
      have hc : 0 < scook.length := by rcases hg with h | h; exact absurd rfl h; exact h
      rw [if_neg (by omega)]
      simp only [if_true]
      rw [extsL_ext srvF n (by omega) _ _ [] 43 (by decide) (u16L sver) _ (by rw [u16L_len]; omega) (by simp) (srvF_43 _ i2 _)]
      exact extsL_ext' srvF _ (by omega) _ _ _ 44 (by decide) _ (by rw [vecL_len]; omega) (by simp) (srvF_44 _ _ _ rfl hc l3)
    · rw [if_neg hg0]
      by_cases hc : scook.length = 0
      · obtain rfl : scook = [] := List.eq_nil_of_length_eq_zero hc
        simp only [List.length_nil, if_true]
        rw [extsL_ext srvF n (by omega) _ _ [] 43 (by decide) (u16L sver) _ (by rw [u16L_len]; omega) (by simp) (srvF_43 _ i2 _)]
        exact extsL_ext' srvF _ (by omega) _ _ _ 51 (by decide) _ (by rw [u16L_len]; omega) (by simp) (srvF_51r _ i3 _ rfl hg0)
      · rw [if_neg hc, List.append_assoc, extsL_ext srvF n (by omega) _ _ [] 43 (by decide) (u16L sver) _ (by rw [u16L_len]; omega) (by simp) (srvF_43 _ i2 _),
          extsL_ext srvF _ (by omega) _ _ _ 51 (by decide) _ _ (by rw [u16L_len]; omega) (by simp) (srvF_51r _ i3 _ rfl hg0)]
        exact extsL_ext' srvF _ (by omega) _ _ _ 44 (by decide) _ (by rw [vecL_len]; omega) (by simp) (srvF_44 _ _ _ rfl (by omega) l3)

theorem getS_back (s : Sv) (hR : s.R.length = 32) (h : rokS s = true) : getS (rputL s) = (backS s, 0) := by
  obtain ⟨i1, i2, i3, i4, i5⟩ := rokS_in h
  obtain ⟨l1, l2, l3⟩ := rokS_le h
  have hrl := rndS_len hR
  have e0 : rputL s = u16L 771 ++ (rndS s ++ (vecL 1 s.ses ++ (u16L s.suite ++ (0 :: vecL 2 (e4S s))))) := by
    unfold rputL
    simp
    rfl
  rw [e0]
  unfold getS
  rw [mustS_u16 (by decide)]
  unfold gsT
  obtain ⟨a1, a2, a3⟩ := S_app (rndS s) (vecL 1 s.ses ++ (u16L s.suite ++ (0 :: vecL 2 (e4S s)))) 32 (by rw [hrl]; rfl)
  simp only [a1, a2, a3]
  have hg : rndG (rndS s) = rndS s := by
    unfold rndG
    rw [hrl]
    simp
  rw [hg]
  unfold gsU
  have hv : vecS (vecL 1 s.ses ++ (u16L s.suite ++ (0 :: vecL 2 (e4S s)))) 0 1 0 32 = (s.ses, u16L s.suite ++ (0 :: vecL 2 (e4S s)), 0) := vecS_1 s.ses _ 0 32 (by omega) l1 (by omega)
  simp only [hv]
  unfold gsV
  simp only [rU_u16 i1, mustS_zero]
  unfold gsX
  have he : vecS (vecL 2 (e4S s)) 0 2 0 65535 = (e4S s, [], 0) := vecS_2' (e4S s) 0 65535 (by omega) (by have := e4S_le ⟨l2, l3⟩; omega) (by omega)
  simp only [he]
  have hpos : 4 ≤ (e4S s).length + 1 := by
    have h3 : 6 ≤ (e4S s).length := by
      have k1 : (e1S s).length = 6 := rfl
      have k2 : (e1S s).length ≤ (e2S s).length := by unfold e2S; split <;> simp
      have k3 : (e2S s).length ≤ (e3S s).length := by unfold e3S; split <;> simp
      have k4 : (e3S s).length ≤ (e4S s).length := by unfold e4S; split <;> simp
      omega
    omega
  cases hr : s.retry
  · obtain ⟨hne, hc, hgk⟩ := rokS_plain h hr
    have h1 : getS1 (rndS s) = ⟨s.R, [], 0, 771, 0, [], s.retry, [], -1⟩ := by
      unfold getS1 rndS
      rw [hr, if_neg Bool.false_ne_true, if_neg hne]
      rfl
    rw [h1]
    simp only
    rw [exts_back s h _ _ _ _ hpos]
    simp only
    have hb : gsB ⟨s.R, s.ses, s.suite, s.ver, s.grp, s.key, s.retry, s.cook, s.psk⟩ (insB 0 ([], 0)) = 0 := by
      unfold gsB
      rw [if_neg (by simp only [hr]; simp)]
      rfl
    rw [hb]
    unfold gsZ backS
    rw [hr, if_neg Bool.false_ne_true, if_pos (show doneS [] 0 = 0 from rfl)]
    obtain ⟨sR, sses, ssuite, sver, sgrp, skey, sretry, scook, spsk⟩ := s
    simp only at hr
    rw [hr]
  · obtain ⟨hk, hp, hgk⟩ := rokS_retry h hr
    have h1 : getS1 (rndS s) = ⟨List.replicate 32 0, [], 0, 771, 0, [], s.retry, [], -1⟩ := by
      unfold getS1 rndS
      rw [hr, if_pos rfl, if_pos rfl]
      rfl
    rw [h1]
    simp only
    rw [exts_back s h _ _ _ _ hpos]
    simp only
    have hb : gsB ⟨List.replicate 32 0, s.ses, s.suite, s.ver, s.grp, s.key, s.retry, s.cook, s.psk⟩ (insB 0 ([], 0)) = 0 := by
      unfold gsB
      rw [if_neg (by
        rintro ⟨-, h2, h3⟩
        simp only at h2 h3
        rcases hgk with h | h
        · exact h h2
        · omega)]
      rfl
    rw [hb]
    unfold gsZ backS
    rw [hr, if_pos rfl, if_pos (show doneS [] 0 = 0 from rfl)]
end Go.Proofs.Ytegmimnhkohaoaa
/-
  Loads of structs and of arrays of 32 bytes out of blocks that are known whole, as rules of the walk. No condition.
-/
namespace Go.Proofs.Ytegmimnhkohaoaa
open Go.RowKit Go.Kx
set_option linter.unusedVariables false
set_option linter.unusedSimpArgs false

noncomputable def hidLoad (t : TypeId) (v : Value) (w : World) : Result Next := (do let x ← Instr.loadAt t v; pure (Next.value x) : Sem Next).run Try.prog w
noncomputable def stLoad (n : Nat) (t : TypeId) (v : Value) (w : World) : Result Next :=
  match v with
  | .pointer (some ⟨r, 0, none⟩) => (match w.heap[r]? with
    | some (.cells C _ _) => if C.size = n then .ok (.value (.agg C)) w else hidLoad t v w
    | _ => hidLoad t v w)
  | _ => hidLoad t v w
/-- The first 32 cells of a block. -/
def first32 (C : Array Value) : Array Value := (C.toList.take 32).toArray
noncomputable def ptLoad (t : TypeId) (v : Value) (w : World) : Result Next :=
  match v with
  | .pointer (some ⟨r, 0, none⟩) => (match w.heap[r]? with
    | some (.cells C _ _) => if 32 ≤ C.size then .ok (.value (.agg (first32 C))) w else hidLoad t v w
    | _ => hidLoad t v w)
  | _ => hidLoad t v w
theorem blk_range {w : World} {r : Nat} {C : Array Value} {t : TypeId} {fr : Nat × Nat} (hb : w.heap[r]? = some (.cells C t fr)) : w.rangeAt r 0 C.toList := by
  intro j v hv
  rw [cell_of_row w r (0 + j) C t fr hb, Nat.zero_add]
  simpa using hv
theorem blk_range32 {w : World} {r : Nat} {C : Array Value} {t : TypeId} {fr : Nat × Nat} (hb : w.heap[r]? = some (.cells C t fr)) : w.rangeAt r 0 (C.toList.take 32) := by
  intro j v hv
  refine blk_range hb j v ?_
  rw [List.getElem?_take] at hv
  split at hv
  · exact hv
  · cases hv
theorem stLoad_eq (n : Nat) (t : TypeId) (d : TypeDesc) (hu : Try.prog.underlying t = some d) (hd : d.isRow = true) (hi : (Try.prog.info? t).map (·.size) = some n) (dst : Option Tmp) (x : Operand) (ty : TypeId) (pos : String) (after : Array Edge) (gd : Option (Nat × Bool)) (ρ : Operand → Value) (w : World) :
    (execOp ρ ⟨dst, .load t x, ty, pos, after, gd⟩).run Try.prog w = stLoad n t (ρ x) w := by
  have h0 : (execOp ρ ⟨dst, .load t x, ty, pos, after, gd⟩).run Try.prog w = hidLoad t (ρ x) w := rfl
  rw [h0]
  generalize ρ x = v
  unfold stLoad
  split
  · rename_i r
    split
    · rename_i C t' fr hb
      split
      · rename_i hs
        have h1 := run_loadAt_mid (P := Try.prog) w r 0 t C.toList d (blk_range hb) hu hd (by rw [Array.length_toList, hs]; exact hi)
        unfold hidLoad
        rw [Sem.run_bind, h1, Array.toArray_toList]
        rfl
      · rfl
    · rfl
  · rfl
theorem ptLoad_eq (t : TypeId) (d : TypeDesc) (hu : Try.prog.underlying t = some d) (hd : d.isRow = true) (hi : (Try.prog.info? t).map (·.size) = some 32) (dst : Option Tmp) (x : Operand) (ty : TypeId) (pos : String) (after : Array Edge) (gd : Option (Nat × Bool)) (ρ : Operand → Value) (w : World) :
    (execOp ρ ⟨dst, .load t x, ty, pos, after, gd⟩).run Try.prog w = ptLoad t (ρ x) w := by
  have h0 : (execOp ρ ⟨dst, .load t x, ty, pos, after, gd⟩).run Try.prog w = hidLoad t (ρ x) w := rfl
  rw [h0]
  generalize ρ x = v
  unfold ptLoad
  split
  · rename_i r
    split
    · rename_i C t' fr hb
      split
      · rename_i hs
        have h1 := run_loadAt_mid (P := Try.prog) w r 0 t (C.toList.take 32) d (blk_range32 hb) hu hd (by rw [List.length_take, Array.length_toList, Nat.min_eq_left hs]; exact hi)
        unfold hidLoad first32
        rw [Sem.run_bind, h1]
        rfl
      · rfl
    · rfl
  · rfl
theorem exec_ld32 (dst : Option Tmp) (x : Operand) (ty : TypeId) (pos : String) (after : Array Edge) (gd : Option (Nat × Bool)) (ρ : Operand → Value) (w : World) :
    (execOp ρ ⟨dst, .load 22 x, ty, pos, after, gd⟩).run Try.prog w = ptLoad 22 (ρ x) w := ptLoad_eq _ _ Try.underlying22 rfl Try.infoB32 _ _ _ _ _ _ _ _
theorem exec_ldSv (dst : Option Tmp) (x : Operand) (ty : TypeId) (pos : String) (after : Array Edge) (gd : Option (Nat × Bool)) (ρ : Operand → Value) (w : World) :
    (execOp ρ ⟨dst, .load 33 x, ty, pos, after, gd⟩).run Try.prog w = stLoad 40 33 (ρ x) w := stLoad_eq _ _ _ Try.underlying33 rfl Try.infoSv _ _ _ _ _ _ _ _
theorem exec_ldRv (dst : Option Tmp) (x : Operand) (ty : TypeId) (pos : String) (after : Array Edge) (gd : Option (Nat × Bool)) (ρ : Operand → Value) (w : World) :
    (execOp ρ ⟨dst, .load 27 x, ty, pos, after, gd⟩).run Try.prog w = stLoad 40 27 (ρ x) w := stLoad_eq _ _ _ Try.underlying27 rfl Try.infoRv _ _ _ _ _ _ _ _
theorem stLoad_at (n : Nat) (t : TypeId) (r : Nat) (w : World) : stLoad n t (.pointer (some ⟨r, 0, none⟩)) w = (match w.heap[r]? with
    | some (.cells C _ _) => if C.size = n then .ok (.value (.agg C)) w else hidLoad t (.pointer (some ⟨r, 0, none⟩)) w
    | _ => hidLoad t (.pointer (some ⟨r, 0, none⟩)) w) := rfl
theorem ptLoad_at (t : TypeId) (r : Nat) (w : World) : ptLoad t (.pointer (some ⟨r, 0, none⟩)) w = (match w.heap[r]? with
    | some (.cells C _ _) => if 32 ≤ C.size then .ok (.value (.agg (first32 C))) w else hidLoad t (.pointer (some ⟨r, 0, none⟩)) w
    | _ => hidLoad t (.pointer (some ⟨r, 0, none⟩)) w) := rfl
/-- The same as rules for execOp itself, whichever way the operation is written. -/
noncomputable def ldSem (t : TypeId) (v : Value) : Sem Next := do let x ← Instr.loadAt t v; pure (Next.value x)
theorem op_ld32 (dst : Option Tmp) (x : Operand) (ty : TypeId) (pos : String) (after : Array Edge) (gd : Option (Nat × Bool)) (ρ : Operand → Value) : execOp ρ ⟨dst, .load 22 x, ty, pos, after, gd⟩ = ldSem 22 (ρ x) := rfl
theorem op_ldSv (dst : Option Tmp) (x : Operand) (ty : TypeId) (pos : String) (after : Array Edge) (gd : Option (Nat × Bool)) (ρ : Operand → Value) : execOp ρ ⟨dst, .load 33 x, ty, pos, after, gd⟩ = ldSem 33 (ρ x) := rfl
theorem op_ldRv (dst : Option Tmp) (x : Operand) (ty : TypeId) (pos : String) (after : Array Edge) (gd : Option (Nat × Bool)) (ρ : Operand → Value) : execOp ρ ⟨dst, .load 27 x, ty, pos, after, gd⟩ = ldSem 27 (ρ x) := rfl
theorem run_ld32 (v : Value) (w : World) : (ldSem 22 v).run Try.prog w = ptLoad 22 v w := (exec_ld32 none (.const v) 0 "" #[] none (fun _ => v) w)
theorem run_ldSv (v : Value) (w : World) : (ldSem 33 v).run Try.prog w = stLoad 40 33 v w := (exec_ldSv none (.const v) 0 "" #[] none (fun _ => v) w)
theorem run_ldRv (v : Value) (w : World) : (ldSem 27 v).run Try.prog w = stLoad 40 27 v w := (exec_ldRv none (.const v) 0 "" #[] none (fun _ => v) w)
theorem svV_sz (s : Sv) (z : S3) (h : s.R.length = 32) : (svV s z).size = 40 := by simp [svV, svC, h]
theorem svV_first (s : Sv) (z : S3) (h : s.R.length = 32) : first32 (svV s z) = (s.R.map B8).toArray := by
  unfold first32 svV svC
  rw [List.toList_toArray, List.take_append_of_le_length (by simp [h]), List.take_of_length_le (by simp [h])]
end Go.Proofs.Ytegmimnhkohaoaa
/-
  The contracts of relaylaw08's to, from and greets, and relayref08.SameServer of two that are the same. No condition.
-/
namespace Go.Proofs.Ytegmimnhkohaoaa
open Go.RowKit Go.Kx
set_option linter.unusedVariables false
set_option linter.unusedSimpArgs false

theorem list32 (l : List UInt8) (h : l.length = 32) : ∃ r0 r1 r2 r3 r4 r5 r6 r7 r8 r9 r10 r11 r12 r13 r14 r15 r16 r17 r18 r19 r20 r21 r22 r23 r24 r25 r26 r27 r28 r29 r30 r31, l = [r0, r1, r2, r3, r4, r5, r6, r7, r8, r9, r10, r11, r12, r13, r14, r15, r16, r17, r18, r19, r20, r21, r22, r23, r24, r25, r26, r27, r28, r29, r30, r31] := by
  match l, h with
  | [r0, r1, r2, r3, r4, r5, r6, r7, r8, r9, r10, r11, r12, r13, r14, r15, r16, r17, r18, r19, r20, r21, r22, r23, r24, r25, r26, r27, r28, r29, r30, r31], _ => exact ⟨_, _, _, _, _, _, _, _, _, _, _, _, _, _, _, _, _, _, _, _, _, _, _, _, _, _, _, _, _, _, _, _, rfl⟩
theorem built33 (s : Sv) (z : S3) (h : s.R.length = 32) : Try.prog.built 33 [(0, .agg (s.R.map B8).toArray), (1, .slice z.p1 z.n1 z.c1), (2, .int .i64 s.suite), (3, .int .i64 s.ver), (4, .agg #[.int .i64 s.grp, .slice z.p2 z.n2 z.c2]), (5, .bool s.retry), (6, .slice z.p3 z.n3 z.c3), (7, .int .i64 s.psk)] = some (svV s z) := by
  obtain ⟨r0, r1, r2, r3, r4, r5, r6, r7, r8, r9, r10, r11, r12, r13, r14, r15, r16, r17, r18, r19, r20, r21, r22, r23, r24, r25, r26, r27, r28, r29, r30, r31, hR⟩ := list32 s.R h
  unfold svV svC
  rw [hR]
  kernel_rfl
theorem built27 (s : Sv) (z : S3) (h : s.R.length = 32) : Try.prog.built 27 [(0, .agg (s.R.map B8).toArray), (1, .slice z.p1 z.n1 z.c1), (2, .int .i64 s.suite), (3, .int .i64 s.ver), (4, .agg #[.int .i64 s.grp, .slice z.p2 z.n2 z.c2]), (5, .bool s.retry), (6, .slice z.p3 z.n3 z.c3), (7, .int .i64 s.psk)] = some (svV s z) := by
  obtain ⟨r0, r1, r2, r3, r4, r5, r6, r7, r8, r9, r10, r11, r12, r13, r14, r15, r16, r17, r18, r19, r20, r21, r22, r23, r24, r25, r26, r27, r28, r29, r30, r31, hR⟩ := list32 s.R h
  unfold svV svC
  rw [hR]
  kernel_rfl
theorem Try.zeroRv : (Try.prog.info? 27).map (fun i => (i.zero, i.size)) = some (some (.agg (svV svZ z0)), 40) := by kernel_rfl
theorem run_zeroRv (w : World) : (zeroValue 27).run Try.prog w = .ok (.agg (svV svZ z0)) w := (zero_of_info Try.zeroRv).1 w

set_option maxHeartbeats 4000000 in
set_option maxRecDepth 100000 in
theorem to_c (s : Sv) (z : S3) (M : Nat) (wq w : World) (hI : IsSv wq M s z) : Calls Try.prog 10 #[.agg (svV s z)] w (fun e w' => e = .returned (.agg (svV s z)) ∧ Below w.heap.size w w') := by
  have h := hI.len
  have hB := Blk.new w 27 (svV s z)
  have hb0 : Below w.heap.size w (w.alloc (.cells (svV s z) 27)) := (Below.refl _ _).alloc (Nat.le_refl _) _
  have hb1 := Blk.new (w.alloc (.cells (svV s z) 27)) 33 (svV svZ z0)
  rw [World.size_alloc] at hb1
  have hbb : Below w.heap.size w ((w.alloc (.cells (svV s z) 27)).alloc (.cells (svV svZ z0) 33)) := hb0.alloc hb0.size _
  have hB1 := hB.below (w' := (w.alloc (.cells (svV s z) 27)).alloc (.cells (svV svZ z0) 33)) ((Below.refl _ _).alloc (Nat.le_refl _) _)
  have hz := run_zeroSv
  have c32 := hB1.c32 hI
  have c33 := hB1.c33 hI
  have c34 := hB1.c34 hI
  have c35 := hB1.c35 hI
  have c36 := hB1.c36 hI
  have c37 := hB1.c37 hI
  have c38 := hB1.c38 hI
  have c39 := hB1.c39 hI
  have H := Lib.hid (And.intro hB1 (And.intro hb1 hbb))
  clear hB hb0 hb1 hbb hB1
  go_enter Try.func10, Try.ntmps10
  go_upto_region 1 with (fail)
  clear hz
  generalize (w.alloc (.cells (svV s z) 27)).alloc (.cells (svV svZ z0) 33) = w0 at *
  go_wp2_with (first
    | (refine wpList_load_mid rfl 22 (.tmp 3) rfl w.heap.size 0 rfl (s.R.map B8) _ (H.out.1.rnd hI) Try.underlying22 rfl (by rw [List.length_map, h]; exact Try.infoB32) ?_)
    | (refine wpList_build_eq rfl 31 _ rfl (C := #[.int .i64 s.grp, .slice z.p2 z.n2 z.c2]) rfl (by kernel_rfl) ?_)
    | (refine wpList_build_eq (l := [(0, .agg (s.R.map B8).toArray), (1, .slice z.p1 z.n1 z.c1), (2, .int .i64 s.suite), (3, .int .i64 s.ver), (4, .agg #[.int .i64 s.grp, .slice z.p2 z.n2 z.c2]), (5, .bool s.retry), (6, .slice z.p3 z.n3 z.c3), (7, .int .i64 s.psk)]) rfl 33 _ rfl (by simp [Act.eval, Act.put]) (built33 s z h) ?_)
    | (refine st_blk rfl 33 (.tmp 2) (.tmp 24) rfl (w.heap.size + 1) (svV s z) rfl rfl 33 (svV svZ z0) H.out.2.1 (by rw [svV_size' _ _ h]; exact Try.infoSv) (by rw [svV_size' _ _ rfl, svV_size' _ _ h]) (svV_ones _ _) ?_; intro w5 hb5 ho5; have H5 := Lib.hid (And.intro hb5 ho5); clear hb5 ho5))
  refine bodyPost_ret (v := .agg (svV s z)) (results_cell_row (P := Try.prog) Try.results10 _ _ (w.heap.size + 1) _ _ _ _ rfl H5.out.1 Try.underlying33 rfl (by rw [svV_size' _ _ h]; exact Try.infoSv)) rfl ?_
  exact ⟨rfl, below_only H.out.2.2 H.out.2.2.size H5.out.2 (by intro k hk e; omega)⟩

set_option maxHeartbeats 4000000 in
set_option maxRecDepth 100000 in
theorem from_c (s : Sv) (z : S3) (M : Nat) (wq w : World) (hI : IsSv wq M s z) : Calls Try.prog 15 #[.agg (svV s z)] w (fun e w' => e = .returned (.agg (svV s z)) ∧ Below w.heap.size w w') := by
  have h := hI.len
  have hB := Blk.new w 33 (svV s z)
  have hb0 : Below w.heap.size w (w.alloc (.cells (svV s z) 33)) := (Below.refl _ _).alloc (Nat.le_refl _) _
  have hb1 := Blk.new (w.alloc (.cells (svV s z) 33)) 27 (svV svZ z0)
  rw [World.size_alloc] at hb1
  have hbb : Below w.heap.size w ((w.alloc (.cells (svV s z) 33)).alloc (.cells (svV svZ z0) 27)) := hb0.alloc hb0.size _
  have hB1 := hB.below (w' := (w.alloc (.cells (svV s z) 33)).alloc (.cells (svV svZ z0) 27)) ((Below.refl _ _).alloc (Nat.le_refl _) _)
  have hz := run_zeroRv
  have c32 := hB1.c32 hI
  have c33 := hB1.c33 hI
  have c34 := hB1.c34 hI
  have c35 := hB1.c35 hI
  have c36 := hB1.c36 hI
  have c37 := hB1.c37 hI
  have c38 := hB1.c38 hI
  have c39 := hB1.c39 hI
  have H := Lib.hid (And.intro hB1 (And.intro hb1 hbb))
  clear hB hb0 hb1 hbb hB1
  go_enter Try.func15, Try.ntmps15
  go_upto_region 1 with (fail)
  clear hz
  generalize (w.alloc (.cells (svV s z) 33)).alloc (.cells (svV svZ z0) 27) = w0 at *
  go_wp2_with (first
    | (refine wpList_load_mid rfl 22 (.tmp 3) rfl w.heap.size 0 rfl (s.R.map B8) _ (H.out.1.rnd hI) Try.underlying22 rfl (by rw [List.length_map, h]; exact Try.infoB32) ?_)
    | (refine wpList_build_eq rfl 25 _ rfl (C := #[.int .i64 s.grp, .slice z.p2 z.n2 z.c2]) rfl (by kernel_rfl) ?_)
    | (refine wpList_build_eq (l := [(0, .agg (s.R.map B8).toArray), (1, .slice z.p1 z.n1 z.c1), (2, .int .i64 s.suite), (3, .int .i64 s.ver), (4, .agg #[.int .i64 s.grp, .slice z.p2 z.n2 z.c2]), (5, .bool s.retry), (6, .slice z.p3 z.n3 z.c3), (7, .int .i64 s.psk)]) rfl 27 _ rfl (by simp [Act.eval, Act.put]) (built27 s z h) ?_)
    | (refine st_blk rfl 27 (.tmp 2) (.tmp 24) rfl (w.heap.size + 1) (svV s z) rfl rfl 27 (svV svZ z0) H.out.2.1 (by rw [svV_size' _ _ h]; exact Try.infoRv) (by rw [svV_size' _ _ rfl, svV_size' _ _ h]) (svV_ones _ _) ?_; intro w5 hb5 ho5; have H5 := Lib.hid (And.intro hb5 ho5); clear hb5 ho5))
  refine bodyPost_ret (v := .agg (svV s z)) (results_cell_row (P := Try.prog) Try.results15 _ _ (w.heap.size + 1) _ _ _ _ rfl H5.out.1 Try.underlying27 rfl (by rw [svV_size' _ _ h]; exact Try.infoRv)) rfl ?_
  exact ⟨rfl, below_only H.out.2.2 H.out.2.2.size H5.out.2 (by intro k hk e; omega)⟩
end Go.Proofs.Ytegmimnhkohaoaa
/-
  What the contracts of relaylaw08.To and From share. No condition but those that each theorem states.
-/
namespace Go.Proofs.Ytegmimnhkohaoaa
open Go.RowKit Go.Kx
set_option linter.unusedVariables false
set_option linter.unusedSimpArgs false
set_option maxRecDepth 100000

def Z10.u6 (z : Z10) (p : Option Addr) (n c : Nat) : Z10 := { z with p6 := p, n6 := n, c6 := c }
def Z10.u9 (z : Z10) (p : Option Addr) (n c : Nat) : Z10 := { z with p9 := p, n9 := n, c9 := c }
theorem Try.infoShR : (Try.prog.info? 25).map (fun i => (i.zero, i.size, i.bytes)) = some (some (.agg #[.int .i64 0, .slice none 0 0]), 2, 32) := by kernel_rfl
theorem Try.infoIdR : (Try.prog.info? 51).map (fun i => (i.zero, i.size, i.bytes)) = some (some (.agg #[.slice none 0 0, .int .i64 0]), 2, 32) := by kernel_rfl
theorem Try.zeroRc : (Try.prog.info? 48).map (fun i => (i.zero, i.size)) = some (some (.agg (clV clZ z10)), 42) := by kernel_rfl
theorem run_zeroRc (w : World) : (zeroValue 48).run Try.prog w = .ok (.agg (clV clZ z10)) w := (zero_of_info Try.zeroRc).1 w
theorem Blk.putC {w : World} {q t : Nat} {s : Cl} {z z' : Z10} (h : Blk w q t (clV s z)) (hl : s.R.length = 32) (k : Nat) (v : Value) (hL : (clL z).set k v = clL z') : Blk (w.setCell ⟨q, 32 + k, none⟩ v) q t (clV s z') := by
  unfold Blk clV at *
  rw [← hL]
  have e : ((s.R.map B8 ++ clL z).toArray.setIfInBounds (32 + k) v) = (s.R.map B8 ++ (clL z).set k v).toArray := by
    rw [List.setIfInBounds_toArray]
    congr 1
    rw [List.set_append, if_neg (by simp [hl])]
    simp [hl]
  rw [← e]
  simp [World.setCell, Array.getElem?_modify, h]
theorem add_int (i : Nat) (h : i ≤ 4398046511104) : IntKind.i64.wrap ((i : Int) + 1) = ((i + 1 : Nat) : Int) := IntWalk.i64_in _ (by omega)

/-- What stays: the argument's block, the result's, the new Client's; its slices. -/
structure TJ (ta tb : Nat) (w : World) (M : Nat) (s : Cl) (z : Z10) (q : Nat) (y : Z10) (wx : World) : Prop where
  b1 : Blk wx w.heap.size ta (clV s z)
  rt : Blk wx (w.heap.size + 1) tb (clV clZ z10)
  b2 : Blk wx q tb (clV s y)
  i : IsCl wx (· < M) s z
  lo : Below w.heap.size w wx
  ne : w.heap.size + 1 < q
  lt : q < wx.heap.size
  hM : M ≤ w.heap.size
section
variable {ta tb : Nat} {w wx wy w1 w5 : World} {M q g : Nat} {s : Cl} {z y y' : Z10}
theorem TJ.only (h : TJ ta tb w M s z q y wx) (ho : Only (· = g) wx wy) (hg : q < g) : TJ ta tb w M s z q y wy :=
  have h1 := h.ne
  have h2 := h.hM
  ⟨h.b1.only ho (by omega), h.rt.only ho (by omega), h.b2.only ho (by omega), h.i.only ho (by intro k hk e; omega), below_only h.lo h.lo.size ho (by intro k hk e; omega), h.ne, Nat.lt_of_lt_of_le h.lt ho.size, h.hM⟩
theorem TJ.put (h : TJ ta tb w M s z q y wx) (k : Nat) (v : Value) (hL : (clL y).set k v = clL y') : TJ ta tb w M s z q y' (wx.setCell ⟨q, 32 + k, none⟩ v) :=
  have ho : Only (· = q) wx (wx.setCell ⟨q, 32 + k, none⟩ v) := (Only.refl (fun k => k = q) wx).setCell _ _ (.inl rfl)
  have h1 := h.ne
  have h2 := h.hM
  ⟨h.b1.only ho (by omega), h.rt.only ho (by omega), h.b2.putC h.i.len k v hL, h.i.only ho (by intro k hk e; omega), below_only h.lo h.lo.size ho (by intro k hk e; omega), h.ne, Nat.lt_of_lt_of_le h.lt ho.size, h.hM⟩
end
def FillR (w : World) (s : Cl) (z : Z10) (e : Ending) (w' : World) : Prop := ∃ p6 c6 p9 c9, e = .returned (.agg (clV s ((z.u6 p6 z.n6 c6).u9 p9 z.n9 c9))) ∧ IsCl w' (· < w'.heap.size) s ((z.u6 p6 z.n6 c6).u9 p9 z.n9 c9) ∧ Below w.heap.size w w'
end Go.Proofs.Ytegmimnhkohaoaa
