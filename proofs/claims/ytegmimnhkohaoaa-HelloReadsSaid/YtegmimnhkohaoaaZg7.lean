/-
  The contract of hello.GetClient. Condition: at most 2 to the 46th bytes.
-/
import Derived.Test.YtegmimnhkohaoaaZg6
import Derived.Test.YtegmimnhkohaoaaZHelV
import Derived.Test.YtegmimnhkohaoaaZg5
import Derived.Test.YtegmimnhkohaoaaZg4
import Derived.Room.Shelf.BufCap
import Derived.Test.YtegmimnhkohaoaaZg1
namespace Go.Proofs.Ytegmimnhkohaoaa
open Go.RowKit Go.Kx
set_option linter.unusedVariables false
set_option linter.unusedSimpArgs false
set_option maxRecDepth 100000

def clZ : Cl := ⟨List.replicate 32 0, [], [], [], [], [], [], [], [], [], []⟩
def z10 : Z10 := ⟨none, 0, 0, none, 0, 0, none, 0, 0, none, 0, 0, none, 0, 0, none, 0, 0, none, 0, 0, none, 0, 0, none, 0, 0, none, 0, 0⟩
theorem Try.zeroCl : (Try.prog.info? 56).map (fun i => (i.zero, i.size)) = some (some (.agg (clV clZ z10)), 42) := by kernel_rfl
theorem run_zeroCl (w : World) : (zeroValue 56).run Try.prog w = .ok (.agg (clV clZ z10)) w := (zero_of_info Try.zeroCl).1 w
theorem Try.built_clZ : Try.prog.built 56 [] = some (clV clZ z10) := by kernel_rfl
theorem IsCl.zero (w : World) (S : Nat → Prop) : IsCl w S clZ z10 :=
  have e : (0 : Nat) ≤ maxLen := Nat.zero_le _
  ⟨rfl, ⟨rfl, Rd.nil _ _ _, fun _ => rfl, Nat.le_refl _, e⟩, ⟨rfl, RdV.nil _ _ _, fun _ => rfl, Nat.le_refl _, e⟩, ⟨rfl, RdV.nil _ _ _, fun _ => rfl, Nat.le_refl _, e⟩, ⟨rfl, RdV.nil _ _ _, fun _ => rfl, Nat.le_refl _, e⟩, ⟨rfl, RdV.nil _ _ _, fun _ => rfl, Nat.le_refl _, e⟩, ⟨rfl, fun i h => by simp [clZ] at h, fun _ => rfl, Nat.le_refl _, e⟩, ⟨rfl, Rd.nil _ _ _, fun _ => rfl, Nat.le_refl _, e⟩, ⟨rfl, Rd.nil _ _ _, fun _ => rfl, Nat.le_refl _, e⟩, ⟨rfl, fun i h => by simp [clZ] at h, fun _ => rfl, Nat.le_refl _, e⟩, ⟨rfl, fun i h => by simp [clZ] at h, fun _ => rfl, Nat.le_refl _, e⟩⟩

theorem bytesEq_c (S T : Nat → Prop) (p q : Option Addr) (n c m k : Nat) (l l' : List UInt8) (w : World) (h1 : Rd w S p l) (h2 : l.length = n) (h3 : Rd w T q l') (h4 : l'.length = m) : Calls Try.prog 55 #[.slice p n c, .slice q m k] w fun e w' => e = .returned (.bool (decide (l = l'))) ∧ w = w' := by
  have e1 := run_str (c := c) h1 h2
  have e2 := run_str (c := k) h3 h4
  go_enter Try.func55, Try.ntmps55
  go_wp2
  go_ret
  refine ⟨congrArg Ending.returned (congrArg Value.bool ?_), rfl⟩
  rw [Bool.eq_iff_iff]
  simp

/-- What GetClient tells, step by step. -/
def gcZ (st : Cl) (l : List UInt8) (bad : Int) : Cl × Int := if doneS l bad = 0 then (st, 0) else (clZ, doneS l bad)
def gcX (st : Cl) (l : List UInt8) (bad : Int) : Cl × Int :=
  let a := vecS l bad 2 0 65535
  let x := extsL cliF (a.1.length + 1) st [] a.1 0
  gcZ x.1 a.2.1 (insB a.2.2 x.2)
def cmpB (c : List UInt8) (bad : Int) : Int := if c = [0] then bad else rm bad 3
def gcC (st : Cl) (l : List UInt8) (bad : Int) : Cl × Int :=
  let c := vecS l bad 1 1 1
  gcX st c.2.1 (cmpB c.1 c.2.2)
def gcN (st : Cl) (l : List UInt8) (bad : Int) : Cl × Int :=
  let n := numsS l bad 2 8
  gcC { st with suites := n.1 } n.2.1 n.2.2
def gcV (st : Cl) (l : List UInt8) (bad : Int) : Cl × Int :=
  let v := vecS l bad 1 0 32
  gcN { st with ses := v.1 } v.2.1 v.2.2
def gcT (m : List UInt8 × Int) : Cl × Int := gcV { clZ with R := rndG (outS m.1 m.2 32) } (leftS m.1 m.2 32) (badS m.1 m.2 32)
def getC (b : List UInt8) : Cl × Int := gcT (mustS b 0 771 2)
theorem numsS_left (s : List UInt8) (bad W m : Int) : (numsS s bad W m).2.1.length ≤ s.length := vecS_left s bad W 0 65535

theorem clV_len (s : Cl) (z : Z10) (h : s.R.length = 32) : (clV s z).toList.length = 42 := by rw [Array.length_toList, clV_size s z h]
theorem splice_rndC (s : Cl) (z : Z10) (l : List UInt8) (h : s.R = List.replicate 32 0) (hl : l.length ≤ 32) : (splice (clV s z).toList 0 (l.map B8)).toArray = clV { s with R := rndG l } z := by
  unfold clV
  unfold splice rndG
  rw [h]
  have hZ : (List.replicate 32 (0 : UInt8)).length = 32 := List.length_replicate
  generalize List.replicate 32 (0 : UInt8) = Z at *
  show (([] : List Value) ++ (l.map B8 ++ List.drop (0 + (l.map B8).length) (Z.map B8 ++ clL z))).toArray = ((l ++ Z.drop l.length).map B8 ++ clL z).toArray
  rw [Nat.zero_add, List.length_map, List.drop_append, List.length_map, hZ, show l.length - 32 = 0 by omega, List.drop_zero, List.map_append, List.map_drop, List.nil_append, List.append_assoc]

def GetCR (w : World) (y : Cl × Int) (e : Ending) (w' : World) : Prop := ∃ z, e = .returned (.tuple #[.agg (clV y.1 z), .int .i64 y.2]) ∧ IsCl w' (fun k => w.heap.size ≤ k) y.1 z ∧ Below w.heap.size w w'

/-- What stays while a Client is read. -/
structure GcI (w : World) (q0 r g : Nat) (st : Cl) (z : Z10) (l : List UInt8) (b : Int) (wx : World) : Prop where
  cur : Cur wx r g l b
  bel : Below w.heap.size w wx
  zb : Blk wx w.heap.size 56 (clV clZ z10)
  sv : ClB wx q0 (fun k => q0 < k) st z
  hr : w.heap.size < r
  hg : w.heap.size < g
  hrq : r < q0
  hgq : g < q0
section
variable {w wx wy : World} {q0 r g : Nat} {st st' : Cl} {z z' : Z10} {l l' : List UInt8} {b b' : Int}
theorem GcI.step (h : GcI w q0 r g st z l b wx) (hc : Cur wy r g l' b') (ho : Only (· = r) wx wy) : GcI w q0 r g st z l' b' wy :=
  ⟨hc, below_only h.bel h.bel.size ho (by intro k hk e; have := h.hr; omega), h.zb.only ho (by have := h.hr; omega), h.sv.only ho (fun k hk => by have := h.hrq; subst hk; exact ⟨by omega, by omega⟩), h.hr, h.hg, h.hrq, h.hgq⟩
theorem GcI.below (h : GcI w q0 r g st z l b wx) (hb : Below wx.heap.size wx wy) : GcI w q0 r g st z l b wy :=
  ⟨h.cur.only (Only.of_below (r := fun _ => False) hb) (fun h => h) (fun h => h), h.bel.trans (hb.mono h.bel.size), h.zb.below hb, h.sv.only (Only.of_below (r := fun _ => False) hb) (fun _ h => h.elim), h.hr, h.hg, h.hrq, h.hgq⟩
theorem GcI.set (h : GcI w q0 r g st z l b wx) (hs : ClB wy q0 (fun k => q0 < k) st' z') (ho : Only (· = q0) wx wy) : GcI w q0 r g st' z' l b wy :=
  ⟨h.cur.only ho (by have := h.hrq; omega) (by have := h.hgq; omega), below_only h.bel h.bel.size ho (by intro k hk e; have := h.hr; have := h.hrq; omega), h.zb.only ho (by have := h.hr; have := h.hrq; omega), hs, h.hr, h.hg, h.hrq, h.hgq⟩
theorem GcI.drew (h : GcI w q0 r g st z l b wx) : GcI w q0 r g st z l b wx.drew := h.below ((Below.refl _ _).drew)
end

set_option maxHeartbeats 4000000 in
theorem getClient_c (S : Nat → Prop) (p : Option Addr) (n c : Nat) (b : List UInt8) (w : World) (hR : Rd w S p b) (hp : p = none → c = 0) (hl : b.length ≤ 70368744177664) (hn : b.length = n) :
    Calls Try.prog 18 #[.slice p n c] w (GetCR w (getC b)) := by
  have HR := Lib.hid (And.intro hR (And.intro hp hn))
  clear hR hp hn
  have hz := run_zeroCl
  obtain ⟨y, hy⟩ : ∃ y, y = getC b := ⟨_, rfl⟩
  rw [← hy]
  have HGS := Lib.hid hy
  clear hy
  go_enter Try.func18, Try.ntmps18
  go_upto_region 1 with (fail)
  have hB0 : Below w.heap.size w (w.alloc (.cells (clV clZ z10) 56)) := (Below.refl _ _).alloc (Nat.le_refl _) _
  have hb0 := Blk.new w 56 (clV clZ z10)
  generalize w.alloc (.cells (clV clZ z10) 56) = w0 at *
  have HR0 := Lib.hid (And.intro (HR.out.1.below hB0) (And.intro hB0 hb0))
  have hsz0 := hb0.lt
  clear hB0 hb0
  go_upto_region 3 with (go_at_call 42; refine (new_c S p n c b _ HR0.out.1 HR.out.2.1 (by omega) HR.out.2.2).mono ?_; rintro e w1 ⟨r, g, rfl, h1, h2, h3, hc, hb1⟩; have hgl := hc.glt; have hsz1 := hb1.size; have hB2 : Below w1.heap.size w1 (w1.alloc (.cells (clV clZ z10) 56)) := (Below.refl _ _).alloc (Nat.le_refl _) _; have H1 := Lib.hid (And.intro (hc.only (Only.of_below (r := fun _ => False) hB2) (fun h => h) (fun h => h)) (And.intro (HR0.out.2.1.trans ((hb1.trans (hB2.mono hsz1)).mono (by omega))) (And.intro ((HR0.out.2.2.below hb1).below hB2) (Blk.new w1 56 (clV clZ z10))))); have hsz2 := World.size_alloc w1 (.cells (clV clZ z10) 56); clear hc hb1 hB2)
  clear hz HR0
  generalize w1.alloc (.cells (clV clZ z10) 56) = w2 at *
  have I2 := H1
  have hm := mustS_left b 0 771 2
  have HM := Lib.hid (must_c r g b 0 771 2 w2 I2.out.1)
  have hy := HGS.out
  unfold getC at hy
  generalize mustS b 0 771 2 = m at *
  have hsr : r < w2.heap.size := by omega
  have HY0 := Lib.hid hy
  clear hy
  go_upto_region 4 with (go_at_call 43; refine HM.out.mono ?_; rintro e w3 ⟨rfl, hc, ho⟩; have I3 := Lib.hid (show Cur w3 r g m.1 m.2 ∧ Below w.heap.size w w3 ∧ Blk w3 w.heap.size 56 (clV clZ z10) ∧ Blk w3 w1.heap.size 56 (clV clZ z10) from ⟨hc, below_only I2.out.2.1 I2.out.2.1.size ho (by intro k hk e; omega), I2.out.2.2.1.only ho (by omega), I2.out.2.2.2.only ho (by omega)⟩); clear hc ho)
  clear I2 HM H1
  have ho32 := outS_32 m.1 m.2
  have hlo := leftS_le m.1 m.2 32
  have HBy := Lib.hid (fun wx (h : Cur wx r g m.1 m.2) => bytes_c r g m.1 m.2 32 wx h (by omega))
  have hy1 : y = gcV { clZ with R := rndG (outS m.1 m.2 32) } (leftS m.1 m.2 32) (badS m.1 m.2 32) := HY0.out
  clear HY0
  generalize outS m.1 m.2 32 = o at *
  generalize leftS m.1 m.2 32 = l1 at *
  generalize badS m.1 m.2 32 = b1 at *
  have HY1 := Lib.hid hy1
  clear hy1
  have hd3 : Cur w3.drew r g m.1 m.2 := I3.out.1.only ((Only.refl (fun _ => False) w3).drew) (fun h => h) (fun h => h)
  have HD := Lib.hid hd3
  clear hd3
  have hs3 : w1.heap.size < w3.heap.size := I3.out.2.2.2.lt
  have HFIT := Lib.hid (show 0 + (o.map B8).length ≤ (clV clZ z10).toList.length by rw [List.length_map, clV_len _ _ rfl]; omega)
  go_region_held3 (fun w' => True) (trivial) (first
    | (go_at_call 44; refine (HBy.out _ (by first | exact HD.out | exact I3.out.1)).mono ?_; rintro e w4 ⟨g', p', c', rfl, k1, hO, hc, hoq⟩; have ho : Only (· = r) w3 w4 := ⟨hoq.os, hoq.tape, hoq.output, hoq.size, hoq.block⟩; clear hoq; have H4 := Lib.hid (And.intro hO (And.intro hc (And.intro (I3.out.2.2.1.only ho (by omega)) (And.intro (I3.out.2.2.2.only ho (by omega)) (below_only I3.out.2.1 I3.out.2.1.size ho (by intro k hk e; omega)))))); have hs4 := ho.size; clear hO hc ho)
    | (refine step_copy_splice rfl (.tmp 13) (.tmp 15) 23 23 rfl 5 Try.underlying23 (by kernel_rfl) _ _ _ _ _ _ rfl rfl w1.heap.size 0 (clV clZ z10).toList 56 (by rw [Array.toArray_toList]; exact H4.out.2.2.2.1) (o.map B8) (by rw [List.length_map]; exact (Nat.min_eq_left ho32).symm) (fun h0 => ⟨rfl, rd_src H4.out.1.rd h0⟩) HFIT.out (oneCell_map _) w1.heap.size w4 (Below.refl _ _) (Nat.le_refl _) ?_; intro w5 hg5 hb5; have HG5 := Lib.hid (And.intro hg5.out hb5); clear hg5 hb5))
  have hRl : (rndG o).length = 32 := rndG_len ho32
  have hG5 : GcI w w1.heap.size r g { clZ with R := rndG o } z10 l1 b1 w5 := by
    have ho5 := Only.of_belowN HG5.out.2
    have hz := IsCl.zero w5 (fun k => w1.heap.size < k)
    refine ⟨H4.out.2.1.only ho5 (by omega) (by omega), below_only H4.out.2.2.2.2 H4.out.2.2.2.2.size ho5 (by intro k hk e; omega), H4.out.2.2.1.only ho5 (by omega), ⟨?_, ⟨hRl, hz.s1, hz.s2, hz.s3, hz.s4, hz.s5, hz.s6, hz.s7, hz.s8, hz.s9, hz.s10⟩⟩, by omega, by omega, h2, hgl⟩
    have h := HG5.out.1
    rw [splice_rndC clZ z10 o rfl ho32] at h
    exact h
  have G5 := Lib.hid hG5
  have hs5 := hG5.bel.size
  clear hG5 HG5 H4 I3 HD HFIT HBy
  generalize rndG o = R at *
  generalize w1.heap.size = q0 at *
  have hqw := G5.out.sv.b.lt
  have hrw := G5.out.cur.lt
  have hgw := G5.out.cur.glt
  have hwr := G5.out.hr
  generalize ({ clZ with R := R } : Cl) = s1 at *
  -- the session
  have hy2 := HY1.out
  clear HY1
  unfold gcV at hy2
  dsimp only at hy2
  have hlv := vecS_left l1 b1 1 0 32
  have HV := Lib.hid (fun wx (h : Cur wx r g l1 b1) => vector_c r g l1 b1 1 0 32 wx h (by omega))
  generalize vecS l1 b1 1 0 32 = v at *
  have HY2 := Lib.hid hy2
  clear hy2
  go_upto_region 6 with (go_at_call 45; refine (HV.out _ G5.out.cur).mono ?_; rintro e w7 ⟨g7, p7, c7, rfl, hg7, hO, hc, ho⟩; have hz7 := ho.size; have G7a := G5.out.step hc ho; have c32 := G7a.sv.cell 0; have f32 := G7a.sv.b.fr 32; have P7 := Lib.hid (G7a.set (G7a.sv.put (fun h => Nat.lt_irrefl _ h) 0 (.slice p7 v.1.length c7) { s1 with ses := v.1 } { z10 with p1 := p7, n1 := v.1.length, c1 := c7 } rfl rfl ⟨G7a.sv.i.len, SlS.of_own hO rfl (show q0 < g7 by omega), G7a.sv.i.s2, G7a.sv.i.s3, G7a.sv.i.s4, G7a.sv.i.s5, G7a.sv.i.s6, G7a.sv.i.s7, G7a.sv.i.s8, G7a.sv.i.s9, G7a.sv.i.s10⟩) ((Only.refl (fun k => k = q0) _).setCell _ _ (.inl rfl))); clear hc ho hO G7a hg7)
  have hq7 := P7.out.sv.b.lt
  generalize w7.setCell ⟨q0, 32, none⟩ (.slice p7 v.1.length c7) = w8 at *
  generalize ({ z10 with p1 := p7, n1 := v.1.length, c1 := c7 } : Z10) = z1 at *
  generalize ({ s1 with ses := v.1 } : Cl) = s2 at *
  clear G5 HV
  -- the suites
  have hy3 := HY2.out
  clear HY2
  unfold gcN at hy3
  dsimp only at hy3
  have hln := numsS_left v.2.1 v.2.2 2 8
  have HN := Lib.hid (fun wx (h : Cur wx r g v.2.1 v.2.2) => numbers_c r g v.2.1 v.2.2 2 8 wx h (by omega))
  generalize numsS v.2.1 v.2.2 2 8 = u at *
  have HY3 := Lib.hid hy3
  clear hy3
  go_upto_region 7 with (go_at_call 54; refine (HN.out _ P7.out.cur).mono ?_; rintro e w9 ⟨p9, n9, c9, rfl, hS, hc, ho⟩; have hz9 := ho.size; have G9 := P7.out.step hc ho; have c33 := G9.sv.cell 1; have f33 := G9.sv.b.fr 33; have P9 := Lib.hid (G9.set (G9.sv.put (fun h => Nat.lt_irrefl _ h) 1 (.slice p9 n9 c9) { s2 with suites := u.1 } { z1 with p2 := p9, n2 := n9, c2 := c9 } rfl rfl ⟨G9.sv.i.len, G9.sv.i.s1, hS.mono (fun k _ hk => by omega), G9.sv.i.s3, G9.sv.i.s4, G9.sv.i.s5, G9.sv.i.s6, G9.sv.i.s7, G9.sv.i.s8, G9.sv.i.s9, G9.sv.i.s10⟩) ((Only.refl (fun k => k = q0) _).setCell _ _ (.inl rfl))); clear hc ho hS G9)
  have hq9 := P9.out.sv.b.lt
  generalize w9.setCell ⟨q0, 33, none⟩ (.slice p9 n9 c9) = w10 at *
  generalize ({ z1 with p2 := p9, n2 := n9, c2 := c9 } : Z10) = z2 at *
  generalize ({ s2 with suites := u.1 } : Cl) = s3 at *
  clear P7 HN
  -- the compression
  have hy4 := HY3.out
  clear HY3
  unfold gcC at hy4
  dsimp only at hy4
  have hlc := vecS_left u.2.1 u.2.2 1 1 1
  have HC := Lib.hid (fun wx (h : Cur wx r g u.2.1 u.2.2) => vector_c r g u.2.1 u.2.2 1 1 1 wx h (by omega))
  generalize vecS u.2.1 u.2.2 1 1 1 = a at *
  have HY4 := Lib.hid hy4
  clear hy4
  obtain ⟨bq, hbq⟩ : ∃ bq, bq = decide (a.1 = [0]) := ⟨_, rfl⟩
  have HBQ := Lib.hid hbq
  clear hbq
  go_upto_if 28 with (first
    | (go_at_call 45; refine (HC.out _ P9.out.cur).mono ?_; rintro e w11 ⟨g11, p11, c11, rfl, hg11, hO, hc, ho⟩; have hz11 := ho.size; have hG11 := P9.out.step hc ho; have hB11 : Below w11.heap.size w11 (w11.alloc (.cells #[.int .u8 0] 5)) := (Below.refl _ _).alloc (Nat.le_refl _) _; have G11 := Lib.hid (And.intro (hG11.below hB11) (And.intro (Own.keep hO hB11).rd (Rd.lit w11 [0]))); clear hc ho hO hG11 hB11)
    | (go_at_call 55; refine (bytesEq_c _ _ p11 _ a.1.length c11 1 1 a.1 [0] _ G11.out.2.1 rfl G11.out.2.2 rfl).mono ?_; rintro e w12 ⟨rfl, rfl⟩; rw [← HBQ.out]))
  have hcm : (if bq = true then a.2.2 else rm a.2.2 3) = cmpB a.1 a.2.2 := by
    unfold cmpB
    rw [HBQ.out]
    simp only [decide_eq_true_eq]
  have HCM := Lib.hid hcm
  clear hcm
  go_cut [30] (fun _ wx => GcI w q0 r g s3 z2 a.2.1 (if bq = true then a.2.2 else rm a.2.2 3) wx)
  case first =>
    cases bq
    · go_wp2_with (go_at_call 49; refine (fail_c r g a.2.1 a.2.2 _ G11.out.1.cur).mono ?_; rintro e w12 ⟨rfl, hc, ho⟩; have G13 := Lib.hid (G11.out.1.step hc ho); clear hc ho)
      go_meet
      rw [if_neg Bool.false_ne_true]
      exact G13.out
    · go_wp2
      go_meet
      rw [if_pos trivial]
      exact G11.out.1
  case rest =>
    rw [HCM.out] at hcut
    have G14 := Lib.hid hcut
    have hq10 := G14.out.sv.b.lt
    have hr10 := G14.out.cur.lt
    have hg10 := G14.out.cur.glt
    clear hcut G11 HCM HBQ HC P9
    have hy5 := HY4.out
    clear HY4
    generalize cmpB a.1 a.2.2 = b6 at *
    unfold gcX at hy5
    have hX := exts_c (client_ext q0) (fun k => q0 < k) s3 r g a.2.1 b6 _ ⟨z2, G14.out.sv⟩ G14.out.cur (fun h => Nat.lt_irrefl _ h) (by omega) (by omega) (by omega) (by omega)
    dsimp only at hy5
    generalize vecS a.2.1 b6 2 0 65535 = d at *
    generalize extsL cliF (d.1.length + 1) s3 [] d.1 0 = x at *
    generalize insB d.2.2 x.2 = b5 at *
    have HX := Lib.hid hX
    have HY5 := Lib.hid hy5
    clear hX hy5
    go_upto_region 11 with (go_at_call 47; refine HX.out.mono ?_; rintro e w11 ⟨rfl, hc, ⟨z4, hsv⟩, ho⟩; have G15 := Lib.hid (show GcI w q0 r g x.1 z4 d.2.1 b5 w11 from ⟨hc, below_only G14.out.bel G14.out.bel.size ho (by intro k hk e; have := G14.out.hr; omega), G14.out.zb.only ho (by have := G14.out.hr; omega), hsv.mono (fun k _ hk => by omega), G14.out.hr, G14.out.hg, G14.out.hrq, G14.out.hgq⟩); clear hc hsv ho)
    clear G14 HX
    have hy5 := HY5.out
    clear HY5
    unfold gcZ at hy5
    have hdn := fun wx (h : Cur wx r g d.2.1 b5) => done_c r g d.2.1 b5 wx h
    generalize doneS d.2.1 b5 = dd at *
    have HD := Lib.hid hdn
    clear hdn
    have hlt0 := G15.out.zb.lt
    by_cases hd : dd = 0
    · have hyy : y = (x.1, 0) := by rw [hy5, if_pos hd]
      have HYY := Lib.hid hyy
      clear hyy hy5
      subst hd
      go_wp2_with (first
        | (go_at_call 50; refine (HD.out _ G15.out.cur).mono ?_; rintro e w15 ⟨rfl, rfl⟩)
        | (refine wpList_load_mid rfl 56 (.tmp 5) rfl q0 0 rfl (clV x.1 z4).toList _ G15.out.sv.b.range Try.underlying56 rfl (by rw [clV_len _ _ G15.out.sv.i.len]; exact Try.infoCl) ?_; rw [Array.toArray_toList])
        | (refine st_blk rfl 56 (.tmp 2) (.tmp 40) rfl w.heap.size (clV x.1 z4) rfl rfl 56 (clV clZ z10) G15.out.zb (by rw [clV_size _ _ G15.out.sv.i.len]; exact Try.infoCl) (by rw [clV_size _ _ rfl, clV_size _ _ G15.out.sv.i.len]) (clV_ones _ _) ?_; intro w16 hb16 ho16; have H16 := Lib.hid (And.intro hb16 ho16); clear hb16 ho16))
      refine bodyPost_ret (v := .tuple #[.agg (clV x.1 z4), .int .i64 0]) (results_ct (P := Try.prog) 2 3 Try.results18 _ _ w.heap.size _ _ _ (.int .i64 0) rfl rfl H16.out.1 Try.underlying56 rfl (by rw [clV_size _ _ G15.out.sv.i.len]; exact Try.infoCl)) rfl ?_
      rw [HYY.out]
      have hw0 := G15.out.hr
      have hw1 := G15.out.hrq
      exact ⟨z4, rfl, (((G15.out.sv.i.mono (T := fun k => w.heap.size < k) (fun k _ hk => by omega)).only H16.out.2 (by intro k hk e; omega)).mono (fun k _ h => Nat.le_of_lt h)), below_only G15.out.bel G15.out.bel.size H16.out.2 (by intro k hk e; omega)⟩
    · have hyy : y = (clZ, dd) := by rw [hy5, if_neg hd]
      have HYY := Lib.hid hyy
      have hdb : (dd != 0) = true := by simpa using hd
      clear hyy hy5 hd
      go_wp2_with (first
        | (go_at_call 50; refine (HD.out _ G15.out.cur).mono ?_; rintro e w15 ⟨rfl, rfl⟩)
        | (refine wpList_build_eq rfl 56 _ rfl (C := clV clZ z10) rfl Try.built_clZ ?_)
        | (refine st_blk rfl 56 (.tmp 2) (.tmp 38) rfl w.heap.size (clV clZ z10) rfl rfl 56 (clV clZ z10) G15.out.zb (by rw [clV_size _ _ rfl]; exact Try.infoCl) rfl (clV_ones _ _) ?_; intro w16 hb16 ho16; have H16 := Lib.hid (And.intro hb16 ho16); clear hb16 ho16))
      refine bodyPost_ret (v := .tuple #[.agg (clV clZ z10), .int .i64 dd]) (results_ct (P := Try.prog) 2 3 Try.results18 _ _ w.heap.size _ _ _ (.int .i64 dd) rfl rfl H16.out.1 Try.underlying56 rfl (by rw [clV_size _ _ rfl]; exact Try.infoCl)) rfl ?_
      rw [HYY.out]
      exact ⟨z10, rfl, IsCl.zero _ _, below_only G15.out.bel G15.out.bel.size H16.out.2 (by intro k hk e; omega)⟩
end Go.Proofs.Ytegmimnhkohaoaa
/-
  The plain law beneath HelloLimits: which Clients can't be put. No condition.
-/
namespace Go.Proofs.Ytegmimnhkohaoaa
open Go.RowKit Go.Kx
set_option linter.unusedVariables false
set_option linter.unusedSimpArgs false

/-- The numbers 0, 1, .. ahead of n. -/
def upI (n : Nat) : List Int := (List.range n).map fun (i : Nat) => (i : Int)
theorem upI_len (n : Nat) : (upI n).length = n := by simp [upI]
theorem upI_succ (n : Nat) : upI (n + 1) = upI n ++ [(n : Int)] := by simp [upI, List.range_succ]
def lim0 : Cl := { clZ with suites := [1] }
def mostN (more : Bool) : Nat := if more then 5 else 4
/-- The Client of each limit. -/
def limS (k : Nat) (n : Nat) : Cl :=
  match k with
  | 0 => { lim0 with vers := upI n }
  | 1 => { lim0 with grps := upI n }
  | 2 => { lim0 with schs := upI n }
  | 3 => { lim0 with modes := List.replicate n 0 }
  | 4 => { lim0 with suites := upI n ++ [5, 6, 7, 8] }
  | _ => { lim0 with ids := List.replicate n ([1], 0), bnd := List.replicate n (List.replicate 32 0) }
theorem lim_bad : ∀ (more : Bool) (k : Nat), k < 6 → (putC (limS k (mostN more))).2 = more
  | true, 0, _ => by kernel_rfl
  | true, 1, _ => by kernel_rfl
  | true, 2, _ => by kernel_rfl
  | true, 3, _ => by kernel_rfl
  | true, 4, _ => by kernel_rfl
  | true, 5, _ => by kernel_rfl
  | false, 0, _ => by kernel_rfl
  | false, 1, _ => by kernel_rfl
  | false, 2, _ => by kernel_rfl
  | false, 3, _ => by kernel_rfl
  | false, 4, _ => by kernel_rfl
  | false, 5, _ => by kernel_rfl
  | _, k + 6, h => by omega
theorem lim_fit (k n : Nat) (h : n ≤ 5) : Fit (limS k n) := by
  have hu := upI_len n
  have h0 : ∀ s : Cl, s.suites.length ≤ 100 → s.vers.length ≤ 100 → s.grps.length ≤ 100 → s.schs.length ≤ 100 → s.shs.length ≤ 100 → s.ids.length ≤ 100 → s.bnd.length ≤ 100 → Fit s := by
    intro s h1 h2 h3 h4 h5 h6 h7
    exact ⟨by omega, by omega, by omega, by omega, by omega, by omega, by omega⟩
  refine h0 _ ?_ ?_ ?_ ?_ ?_ ?_ ?_ <;> unfold limS <;> split <;> simp [lim0, clZ, hu] <;> omega
/-- A number, wrapped to its place among m. -/
theorem hopN (n : Int) (m : Nat) (hm : 0 < m) (hb : m ≤ 1000000) : ∃ P : Nat, wrap64 ((IntKind.u64.wrap n).tmod (m : Int)) = (P : Int) ∧ P < m := by
  have h0 : 0 ≤ IntKind.u64.wrap n := by rw [IntKind.wrap_u64]; omega
  rw [Int.tmod_eq_emod_of_nonneg h0]
  generalize IntKind.u64.wrap n = y at h0
  have h1 : 0 ≤ y % (m : Int) ∧ y % (m : Int) < (m : Int) := ⟨Int.emod_nonneg _ (by omega), Int.emod_lt_of_pos _ (by omega)⟩
  generalize y % (m : Int) = x at h1
  rw [IntWalk.wrap64_in x ⟨by omega, by omega⟩]
  exact ⟨x.toNat, by omega, by omega⟩
end Go.Proofs.Ytegmimnhkohaoaa
/-
  The contracts of relaylaw08.bend and of hello.Cut. Conditions: those of each.
-/
namespace Go.Proofs.Ytegmimnhkohaoaa
open Go.RowKit Go.Kx
set_option linter.unusedVariables false
set_option linter.unusedSimpArgs false
set_option maxRecDepth 100000

/-- A slice of bytes of the call's own, of N at most. -/
def BendR (w : World) (N : Nat) (e : Ending) (w' : World) : Prop := ∃ (l : List UInt8) (p : Option Addr) (n c : Nat), e = .returned (.slice p n c) ∧ l.length = n ∧ n ≤ N ∧ n ≤ c ∧ c ≤ maxLen ∧ Rd w' (fun k => w.heap.size ≤ k) p l ∧ (p = none → c = 0) ∧ (∀ x, p = some x → x.spot = none ∧ x.block < w'.heap.size) ∧ Below w.heap.size w w'
theorem OB.form {w : World} {p : Option Addr} {n c : Nat} {l : List UInt8} (h : OB w p n c l) : n ≤ c ∧ c ≤ maxLen ∧ (∀ x, p = some x → x.spot = none ∧ x.block < w.heap.size ∧ x.off = 0 ∧ owB p n c x.block) := by
  obtain ⟨g, ho, h1, h2⟩ := h.at 0
  obtain ⟨p', c', he, hc, hm, hr, hp, ha⟩ := ho.form
  have hl := h.len
  cases he
  refine ⟨hc, hm, fun x hx => ?_⟩
  obtain ⟨e, hlt⟩ := ha x hx
  subst e
  subst hx
  exact ⟨rfl, hlt, rfl, rfl⟩
theorem OB.pos {w : World} {p : Option Addr} {n c : Nat} {l : List UInt8} (h : OB w p n c l) (hn : 0 < n) : ∃ g, p = some ⟨g, 0, none⟩ ∧ owB p n c g ∧ g < w.heap.size := by
  obtain ⟨g, ho, h1, h2⟩ := h.at w.heap.size
  obtain ⟨p', c', he, hc, hm, hr, hp, ha⟩ := ho.form
  have hl := h.len
  cases he
  cases p with
  | none => have := hr.none_nil; subst this; simp at hn
  | some x =>
    obtain ⟨e, hlt⟩ := ha x rfl
    subst e
    exact ⟨g, rfl, rfl, hlt⟩
theorem hopM (n : Int) (m : Nat) (hm : 0 < m) (hb : m ≤ 4611686018427387904) : ∃ P : Nat, wrap64 ((IntKind.u64.wrap n).tmod (m : Int)) = (P : Int) ∧ P < m := by
  have h0 : 0 ≤ IntKind.u64.wrap n := by rw [IntKind.wrap_u64]; omega
  rw [Int.tmod_eq_emod_of_nonneg h0]
  generalize IntKind.u64.wrap n = y at h0
  have h1 : 0 ≤ y % (m : Int) ∧ y % (m : Int) < (m : Int) := ⟨Int.emod_nonneg _ (by omega), Int.emod_lt_of_pos _ (by omega)⟩
  generalize y % (m : Int) = x at h1
  rw [IntWalk.wrap64_in x ⟨by omega, by omega⟩]
  exact ⟨x.toNat, by omega, by omega⟩
theorem rd_take {w : World} {S : Nat → Prop} {p : Option Addr} {l : List UInt8} (h : Rd w S p l) (k : Nat) : Rd w S p (l.take k) := by
  intro i hi
  have hi2 : i < l.length := by rw [List.length_take] at hi; omega
  have := h i hi2
  rw [List.getElem_take]
  exact this
theorem rd_drop {w : World} {S : Nat → Prop} {g o k : Nat} {l : List UInt8} (h : Rd w S (some ⟨g, o, none⟩) l) : Rd w S (some ⟨g, o + k, none⟩) (l.drop k) := by
  intro i hi
  have hi2 : k + i < l.length := by rw [List.length_drop] at hi; omega
  obtain ⟨a, ha, hS, hc⟩ := h (k + i) hi2
  cases ha
  refine ⟨_, rfl, hS, ?_⟩
  rw [List.getElem_drop]
  have e1 : (⟨g, o, none⟩ : Addr).add (k + i) = ⟨g, o + (k + i), none⟩ := by unfold Addr.add; split <;> simp_all
  have e2 : (⟨g, o + k, none⟩ : Addr).add i = ⟨g, o + k + i, none⟩ := by unfold Addr.add; split <;> simp_all
  rw [e1] at hc
  rw [e2, Nat.add_assoc]
  exact hc
theorem rd_set {w : World} {S : Nat → Prop} {g k : Nat} {x : UInt8} {l : List UInt8} (h : Rd w S (some ⟨g, 0, none⟩) l) (hS : S g) (hk : k < l.length) : Rd (w.setCell ⟨g, k, none⟩ (B8 x)) S (some ⟨g, 0, none⟩) (l.set k x) := by
  intro i hi
  rw [List.length_set] at hi
  refine ⟨_, rfl, hS, ?_⟩
  obtain ⟨a, ha, _, hc⟩ := h i hi
  cases ha
  have e1 : (⟨g, 0, none⟩ : Addr).add i = ⟨g, i, none⟩ := by unfold Addr.add; split <;> simp_all
  rw [e1] at hc ⊢
  by_cases e : k = i
  · subst e
    rw [World.cell?_setCell_same _ _ _ hc]
    simp
  · rw [World.cell?_setCell_other _ _ _ _ (by simp [e]), hc]
    simp [e]
set_option maxHeartbeats 8000000 in
theorem bend_c (S : Nat → Prop) (p : Option Addr) (n c : Nat) (b : List UInt8) (l0 l1 : Int) (w : World) (hR : Rd w S p b) (hp : p = none → c = 0) (hn : b.length = n) (hl : n ≤ 35184372088832) :
    Calls Try.prog 25 #[.slice p n c, .agg #[.int .i64 l0, .int .i64 l1]] w (BendR w (2 * n)) := by
  have HR := Lib.hid (And.intro hR (And.intro hp hn))
  have hR0 : ∀ {w' : World}, Below w.heap.size w w' → Rd w' S p b := fun h => hR.below h
  clear hR hp hn
  go_enter Try.func25, Try.ntmps25
  go_upto_region 1 with (fail)
  have hba : Below w.heap.size w (w.alloc (.cells #[.int .i64 l0, .int .i64 l1] 72)) := (Below.refl _ _).alloc (Nat.le_refl _) _
  have hbk : Blk (w.alloc (.cells #[.int .i64 l0, .int .i64 l1] 72)) w.heap.size 72 #[.int .i64 l0, .int .i64 l1] := Blk.new _ _ _
  generalize w.alloc (.cells #[.int .i64 l0, .int .i64 l1] 72) = w0 at *
  have hq := hbk.lt
  have hob : OB (w0.alloc (.cells #[] 5)) (some ⟨w0.heap.size, 0, none⟩) 0 0 [] := (OB.of_own (Own.new w0)).1
  have hbb : Below w0.heap.size w0 (w0.alloc (.cells #[] 5)) := (Below.refl _ _).alloc (Nat.le_refl _) _
  have H0 := Lib.hid (And.intro hba (And.intro hbk (And.intro hob (And.intro hbb (hR0 hba)))))
  clear hba hbk hob hbb
  go_upto_if 11 with (at_builtin; refine wpList_app8 rfl _ _ rfl H0.out.2.2.1 rfl S p n c b rfl HR.out.2.2 (H0.out.2.2.2.2.below H0.out.2.2.2.1) HR.out.2.1 (by have := HR.out.2.2; simp only [List.length_nil]; omega) ?_; rw [List.nil_append]; intro p1 n1 c1 w1 h1 h2 h3; have H1 := Lib.hid (And.intro h1 (And.intro h2 (And.intro (below_only H0.out.2.2.2.1 (by rw [World.size_alloc]; omega) h3 (fun k hk e => by cases e; exact absurd hk (Nat.lt_irrefl _))) h3))); clear h1 h2 h3)
  obtain rfl : n1 = n := by rw [← H1.out.1.len]; exact HR.out.2.2
  have hz1 := H1.out.2.2.1.size
  have hxo : ∀ k, owB p1 n1 c1 k → w.heap.size ≤ k := fun k hk => by
    rcases H1.out.2.1 k hk with h | h
    · have : w0.heap.size = k := Option.some.inj h
      omega
    · rw [World.size_alloc] at h; omega
  have hbw : Below w.heap.size w w1 := H0.out.1.trans (H1.out.2.2.1.mono (Nat.le_of_lt hq))
  have hfo := H1.out.1.form
  have HX := Lib.hid (And.intro hxo (And.intro hbw hfo))
  clear hxo hbw hfo
  by_cases h0 : n1 = 0
  · have hd : ((n1 : Int) == 0) = true := by simp; omega
    go_wp2
    go_ret
    exact ⟨b, p1, n1, c1, rfl, H1.out.1.len, by omega, HX.out.2.2.1, HX.out.2.2.2.1, H1.out.1.rd.mono (fun k _ hk => HX.out.1 k hk), H1.out.1.nilc, fun x hx => ⟨(HX.out.2.2.2.2 x hx).1, (HX.out.2.2.2.2 x hx).2.1⟩, HX.out.2.1⟩
  · have hd : ((n1 : Int) == 0) = false := by simp; omega
    obtain ⟨g, hpg, hog, hgl⟩ := H1.out.1.pos (by omega)
    have hbl := H1.out.1.len
    have c0 : w1.cell? ⟨w.heap.size, 0, none⟩ = some (.int .i64 l0) := (H0.out.2.1.below H1.out.2.2.1).c 0
    have c1' : w1.cell? ⟨w.heap.size, 1, none⟩ = some (.int .i64 l1) := (H0.out.2.1.below H1.out.2.2.1).c 1
    have hgq : w.heap.size ≤ g := HX.out.1 g hog
    have hu : IntKind.u64.wrap (n1 : Int) = (n1 : Int) := by rw [IntKind.wrap_u64]; omega
    have hn0 : ((n1 : Int) == 0) = false := hd
    obtain ⟨k, hk, hkn⟩ := hopM l0 n1 (by omega) (by omega)
    obtain ⟨t, ht, ht4⟩ := hopM l1 4 (by omega) (by omega)
    have ht' : wrap64 ((IntKind.u64.wrap l1).tmod 4) = (t : Int) := ht
    clear ht
    subst hpg
    have HG := Lib.hid (And.intro hog hbl)
    have hi1 : (k : Int) ≤ (n1 : Int) := by omega
    have hi2 : (0 : Int) ≤ (k : Int) := by omega
    have hi3 : (k : Int) < (n1 : Int) := by omega
    have hnc : n1 ≤ c1 := HX.out.2.2.1
    have hcm : c1 ≤ maxLen := HX.out.2.2.2.1
    have hcI : (n1 : Int) ≤ (c1 : Int) := by omega
    have hcI2 : (k : Int) ≤ (c1 : Int) := by omega
    clear hog hbl
    go_upto_block 0 with (fail)
    rw [hk, ht']
    clear hk ht'
    have hcase : t = 0 ∨ t = 1 ∨ t = 2 ∨ t = 3 := by omega
    have hst : ∀ (x : UInt8), BendR w (2 * n1) (.returned (.slice (some ⟨g, 0, none⟩) n1 c1)) (w1.setCell ⟨g, k, none⟩ (B8 x)) := by
      intro x
      have ho : Only (· = g) w1 (w1.setCell ⟨g, k, none⟩ (B8 x)) := (Only.refl (fun j => j = g) w1).setCell _ _ (.inl rfl)
      refine ⟨b.set k x, _, n1, c1, rfl, by rw [List.length_set]; exact HG.out.2, by omega, hnc, hcm, rd_set (H1.out.1.rd.mono (fun k _ hk => HX.out.1 k hk)) hgq (by rw [HG.out.2]; exact hkn), (fun h => by cases h), fun y hy => ?_, below_only HX.out.2.1 HX.out.2.1.size ho (fun j hj e => by omega)⟩
      cases hy
      exact ⟨rfl, Nat.lt_of_lt_of_le hgl ho.size⟩
    have HST := Lib.hid hst
    have hgk : ∃ v, w1.cell? ⟨g, k, none⟩ = some v := by
      obtain ⟨a, ha, _, hc⟩ := H1.out.1.rd k (by rw [HG.out.2]; exact hkn)
      cases ha
      have e : (⟨g, 0, none⟩ : Addr).add k = ⟨g, k, none⟩ := by unfold Addr.add; split <;> simp_all
      rw [e] at hc
      exact ⟨_, hc⟩
    obtain ⟨vk, hvk⟩ := hgk
    have hfz : w1.frozen? ⟨g, k, none⟩ = false := by
      have h := H1.out.1.own
      obtain ⟨_, h2⟩ := h
      rcases h2 with ⟨hv, _⟩ | ⟨g', cap, cur, hv, hb, hg, _⟩
      · cases hv
      · cases hv
        simp [World.frozen?, hg]
    clear hst
    rcases hcase with rfl | rfl | rfl | rfl
    · go_wp2
      go_ret
      exact ⟨b.take k, _, k, c1, rfl, by rw [List.length_take, HG.out.2]; omega, by omega, by omega, hcm, rd_take (H1.out.1.rd.mono (fun k _ hk => HX.out.1 k hk)) k, (fun h => by cases h), fun y hy => (by cases hy; exact ⟨rfl, hgl⟩), HX.out.2.1⟩
    · have hd := rd_drop (k := k) H1.out.1.rd
      have HD := Lib.hid (And.intro hd (show (b.drop k).length = n1 - k by rw [List.length_drop, HG.out.2]))
      clear hd
      go_wp2_with (at_builtin; refine wpList_app8 rfl _ _ rfl H1.out.1 rfl _ (some ⟨g, 0 + k, none⟩) (n1 - k) (c1 - k) (b.drop k) (by simp [Act.eval, Act.put]) HD.out.2 HD.out.1 (fun h => by cases h) (by rw [HD.out.2, HG.out.2]; omega) ?_; intro p2 n2 c2 w2 h1 h2 h3; have H2 := Lib.hid (And.intro h1 (And.intro h2 h3)); clear h1 h2 h3)
      go_ret
      have hf := H2.out.1.form
      have hx2 : ∀ j, owB p2 n2 c2 j → w.heap.size ≤ j := fun j hj => by
        rcases H2.out.2.1 j hj with h | h
        · exact HX.out.1 j h
        · have := HX.out.2.1.size; omega
      have hl2 := H2.out.1.len
      rw [List.length_append, HD.out.2, HG.out.2] at hl2
      exact ⟨_, p2, n2, c2, rfl, H2.out.1.len, by omega, hf.1, hf.2.1, H2.out.1.rd.mono (fun j _ hj => hx2 j hj), H2.out.1.nilc, fun y hy => ⟨(hf.2.2 y hy).1, (hf.2.2 y hy).2.1⟩, below_only HX.out.2.1 HX.out.2.1.size H2.out.2.2 (fun j hj e => by have := HX.out.1 j e; omega)⟩
    · go_wp2
      go_ret
      have h := HST.out (b8 (l1 / 4))
      unfold B8 at h
      rw [b8_nat] at h
      exact h
    · go_wp2
      go_ret
      have h := HST.out (b8 (l1 / 4))
      unfold B8 at h
      rw [b8_nat] at h
      exact h

/-- What Cut tells of a greeting and its error. -/
def CutR (w : World) (y : Cl × Int) (n : Nat) (e : Ending) (w' : World) : Prop :=
  ((y.2 ≠ 0 ∧ e = .returned (.tuple #[.int .i64 0, .int .i64 y.2])) ∨ (y.2 = 0 ∧ y.1.ids.length = 0 ∧ e = .returned (.tuple #[.int .i64 0, .int .i64 13])) ∨ (y.2 = 0 ∧ 0 < y.1.ids.length ∧ e = .returned (.tuple #[.int .i64 ((n : Int) - 2 - (y.1.bnd.length : Int) * 33), .int .i64 0]))) ∧ Below w.heap.size w w'
set_option maxHeartbeats 8000000 in
theorem cut_c (S : Nat → Prop) (p : Option Addr) (n c : Nat) (b : List UInt8) (y : Cl × Int) (w : World) (hy : getC b = y) (hR : Rd w S p b) (hp : p = none → c = 0) (hl : b.length ≤ 70368744177664) (hn : b.length = n) (hf : y.1.ids.length = y.1.bnd.length ∧ y.1.ids.length ≤ 4) :
    Calls Try.prog 26 #[.slice p n c] w (CutR w y n) := by
  have hc := getClient_c S p n c b w hR hp hl hn
  rw [hy] at hc
  have HC := Lib.hid hc
  obtain ⟨x, er⟩ := y
  have hz := run_zeroCl
  have hln : n ≤ 70368744177664 := by omega
  clear hc hy hR hp hl hn
  go_enter Try.func26, Try.ntmps26
  go_upto_region 2 with (first
    | (go_at_call 18; refine HC.out.mono ?_; rintro en w1 ⟨z1, rfl, hi, hb⟩; have I1 := Lib.hid (And.intro hi hb); clear hi hb)
    | (refine st_blk rfl 56 (.tmp 4) (.tmp 9) rfl w1.heap.size (clV x z1) rfl rfl 56 (clV clZ z10) (Blk.new w1 _ _) (by rw [clV_size _ _ I1.out.1.len]; exact Try.infoCl) (by rw [clV_size _ _ rfl, clV_size _ _ I1.out.1.len]) (clV_ones _ _) ?_; intro w2 hb2 ho2; have I2 := Lib.hid (And.intro hb2 ho2); clear hb2 ho2))
  have hbl : Below w.heap.size w w2 := by
    have h1 : Below w1.heap.size w1 (w1.alloc (.cells (clV clZ z10) 56)) := (Below.refl _ _).alloc (Nat.le_refl _) _
    have h2 := below_only h1 (by rw [World.size_alloc]; omega) I2.out.2 (fun k hk e => by omega)
    exact I1.out.2.trans (h2.mono I1.out.2.size)
  have c40 := I2.out.1.d40 I1.out.1.len
  have c41 := I2.out.1.d41 I1.out.1.len
  have l9 := I1.out.1.s9.1
  have l10 := I1.out.1.s10.1
  have HB := Lib.hid (And.intro hbl (And.intro l9 (And.intro l10 hf)))
  rw [l9, l10] at hf
  have h4 := hf.2
  have h5 := hf.1
  clear hbl l9 l10 hf hz
  by_cases he : er = 0
  · subst he
    by_cases h0 : z1.n9 = 0
    · have hd : ((z1.n9 : Int) == 0) = true := by simp; omega
      go_wp2
      go_ret2
      exact ⟨.inr (.inl ⟨rfl, by show x.ids.length = 0; rw [HB.out.2.1]; exact h0, rfl⟩), HB.out.1⟩
    · have hd : ((z1.n9 : Int) == 0) = false := by simp; omega
      have e1 : IntKind.i64.wrap ((n : Int) - 2) = (n : Int) - 2 := IntWalk.i64_in _ (by omega)
      have e2 : IntKind.i64.wrap ((z1.n10 : Int) * 33) = (z1.n10 : Int) * 33 := IntWalk.i64_in _ (by omega)
      have e3 : IntKind.i64.wrap ((n : Int) - 2 - (z1.n10 : Int) * 33) = (n : Int) - 2 - (z1.n10 : Int) * 33 := IntWalk.i64_in _ (by omega)
      go_wp2
      go_ret2
      refine ⟨.inr (.inr ⟨rfl, by show 0 < x.ids.length; rw [HB.out.2.1]; omega, ?_⟩), HB.out.1⟩
      rw [HB.out.2.2.1]
      rfl
  · have hd : (er != 0) = true := by simp; exact he
    go_wp2
    go_ret2
    exact ⟨.inl ⟨he, rfl⟩, HB.out.1⟩
end Go.Proofs.Ytegmimnhkohaoaa
/-
  The contract of relaylaw08.extended. Conditions: those that the theorem states.
-/
namespace Go.Proofs.Ytegmimnhkohaoaa
open Go.RowKit Go.Kx
set_option linter.unusedVariables false
set_option linter.unusedSimpArgs false
set_option maxRecDepth 100000

theorem OB.set {w : World} {g n c k : Nat} {x : UInt8} {l : List UInt8} (h : OB w (some ⟨g, 0, none⟩) n c l) : OB (w.setCell ⟨g, k, none⟩ (B8 x)) (some ⟨g, 0, none⟩) n c (l.set k x) := by
  refine ⟨?_, by rw [List.length_set]; exact h.len⟩
  obtain ⟨h1, h2⟩ := h.own
  refine ⟨by rw [List.length_map, List.length_set]; rw [List.length_map] at h1; exact h1, .inr ?_⟩
  rcases h2 with ⟨hv, _⟩ | ⟨g', cap, cur, hv, hb, hg, hn, hc, hs, ht⟩
  · cases hv
  · cases hv
    refine ⟨g, c, cur.setIfInBounds k (B8 x), rfl, hb, ?_, hn, hc, by rw [Array.size_setIfInBounds]; exact hs, ?_⟩
    · simp [World.setCell, Array.getElem?_modify, hg]
    · rw [Array.toList_setIfInBounds, List.take_set, ht, List.map_set]
theorem frozen_ob {w : World} {g n c k : Nat} {l : List UInt8} (h : OB w (some ⟨g, 0, none⟩) n c l) : w.frozen? ⟨g, k, none⟩ = false := by
  obtain ⟨_, h2⟩ := h.own
  rcases h2 with ⟨hv, _⟩ | ⟨g', cap, cur, hv, hb, hg, _⟩
  · cases hv
  · cases hv
    simp [World.frozen?, hg]
theorem cell_ob {w : World} {g n c k : Nat} {l : List UInt8} (h : OB w (some ⟨g, 0, none⟩) n c l) (hk : k < l.length) : w.cell? ⟨g, k, none⟩ = some (B8 l[k]) := by
  obtain ⟨a, ha, _, hc⟩ := h.rd k hk
  cases ha
  have e : (⟨g, 0, none⟩ : Addr).add k = ⟨g, k, none⟩ := by unfold Addr.add; split <;> simp_all
  rw [e] at hc
  exact hc
set_option maxHeartbeats 8000000 in
theorem extended_c (S T : Nat → Prop) (p q : Option Addr) (n c m kc : Nat) (b E : List UInt8) (i j : Nat) (w : World) (hR : Rd w S p b) (hp : p = none → c = 0) (hn : b.length = n) (hl : n ≤ 35184372088832)
    (hE : Rd w T q E) (hq : q = none → kc = 0) (hm : E.length = m) (hml : m ≤ 64) (hi : i + 1 < n) (hj : j ≤ 70000) :
    Calls Try.prog 24 #[.slice p n c, .int .i64 (i : Int), .int .i64 (j : Int), .slice q m kc] w (NewOB w (((b.set i (b8 (((j : Int) + (m : Int)) / 256))).set (i + 1) (b8 ((j : Int) + (m : Int)))) ++ E)) := by
  have HR := Lib.hid (And.intro hR (And.intro hp hn))
  have HE := Lib.hid (And.intro hE (And.intro hq hm))
  clear hR hp hn hE hq hm
  have hsum : IntKind.i64.wrap ((j : Int) + (m : Int)) = (j : Int) + (m : Int) := IntWalk.i64_in _ (by omega)
  have hi1 : IntKind.i64.wrap ((i : Int) + 1) = ((i + 1 : Nat) : Int) := IntWalk.i64_in _ (by omega)
  go_enter Try.func24, Try.ntmps24
  have hob : OB (w.alloc (.cells #[] 5)) (some ⟨w.heap.size, 0, none⟩) 0 0 [] := (OB.of_own (Own.new w)).1
  have hbb : Below w.heap.size w (w.alloc (.cells #[] 5)) := (Below.refl _ _).alloc (Nat.le_refl _) _
  have H0 := Lib.hid (And.intro hob hbb)
  clear hob hbb
  go_upto_region 3 with (at_builtin; refine wpList_app8 rfl _ _ rfl H0.out.1 rfl S p n c b rfl HR.out.2.2 (HR.out.1.below H0.out.2) HR.out.2.1 (by have := HR.out.2.2; simp only [List.length_nil]; omega) ?_; rw [List.nil_append]; intro p1 n1 c1 w1 h1 h2 h3; have H1 := Lib.hid (And.intro h1 (And.intro h2 (And.intro (below_only H0.out.2 (by rw [World.size_alloc]; omega) h3 (fun k hk e => by cases e; exact absurd hk (Nat.lt_irrefl _))) h3))); clear h1 h2 h3)
  obtain rfl : n1 = n := by rw [← H1.out.1.len]; exact HR.out.2.2
  obtain ⟨g, hpg, hog, hgl⟩ := H1.out.1.pos (by omega)
  subst hpg
  have hx : ∀ k, owB (some ⟨g, 0, none⟩) n1 c1 k → w.heap.size ≤ k := fun k hk => by
    rcases H1.out.2.1 k hk with h | h
    · cases h; exact Nat.le_refl _
    · rw [World.size_alloc] at h; omega
  have hgw : w.heap.size ≤ g := hx g hog
  have hst : ∀ x y : UInt8, OB ((w1.setCell ⟨g, i, none⟩ (B8 x)).setCell ⟨g, i + 1, none⟩ (B8 y)) (some ⟨g, 0, none⟩) n1 c1 ((b.set i x).set (i + 1) y) ∧ Only (· = g) w1 ((w1.setCell ⟨g, i, none⟩ (B8 x)).setCell ⟨g, i + 1, none⟩ (B8 y)) := fun x y => ⟨H1.out.1.set.set, ((Only.refl (fun j => j = g) w1).setCell _ _ (.inl rfl)).setCell _ _ (.inl rfl)⟩
  have hs := hst (b8 (((j : Int) + (m : Int)) / 256)) (b8 ((j : Int) + (m : Int)))
  unfold B8 at hs
  rw [b8_nat, b8_nat] at hs
  have HS := Lib.hid hs
  have hlb := HR.out.2.2
  have c1' := cell_ob (k := i) H1.out.1 (by omega)
  have c2' := cell_ob (k := i + 1) H1.out.1 (by omega)
  have f1 := frozen_ob (k := i) H1.out.1
  have f2 := frozen_ob (k := i + 1) H1.out.1
  have h2' : (w1.setCell ⟨g, i, none⟩ (B8 (b8 (((j : Int) + (m : Int)) / 256)))).cell? ⟨g, i + 1, none⟩ = some (B8 (b[i + 1]'(by omega))) := by rw [World.cell?_setCell_other _ _ _ _ (by simp)]; exact c2'
  unfold B8 at h2'
  rw [b8_nat] at h2'
  clear hst hs
  have k1 : (i : Int) < (n1 : Int) := by omega
  have k2 : (0 : Int) ≤ (i : Int) := by omega
  have k3 : ((i + 1 : Nat) : Int) < (n1 : Int) := by omega
  have k4 : (0 : Int) ≤ ((i + 1 : Nat) : Int) := by omega
  have hbW := below_only H1.out.2.2.1 H1.out.2.2.1.size HS.out.2 (fun k hk e => by omega)
  have HB := Lib.hid hbW
  clear hbW
  go_upto_region 4 with (fail)
  go_wp2_with (at_builtin; refine wpList_app8 rfl _ _ rfl HS.out.1 rfl T q m kc E rfl HE.out.2.2 (HE.out.1.below HB.out) HE.out.2.1 (by have := HE.out.2.2; rw [List.length_set, List.length_set, HR.out.2.2]; omega) ?_; intro p3 n3 c3 w3 h1 h2 h3; have H3 := Lib.hid (And.intro h1 (And.intro h2 (below_only HB.out HB.out.size h3 (fun k hk e => by have := hx k e; omega)))); clear h1 h2 h3)
  go_ret
  refine ⟨p3, n3, c3, rfl, H3.out.1, fun k hk => ?_, H3.out.2.2⟩
  rcases H3.out.2.1 k hk with h | h
  · exact hx k h
  · have := HB.out.size; omega
end Go.Proofs.Ytegmimnhkohaoaa
/-
  What relayref08.PutClient tells, plainly. No condition but those that each theorem states.
-/
namespace Go.Proofs.Ytegmimnhkohaoaa
open Go.RowKit Go.Kx
set_option linter.unusedVariables false
set_option linter.unusedSimpArgs false
set_option maxRecDepth 100000

theorem blk_rd {w : World} {b : Nat} {C : Array Value} {l : List UInt8} (h : Blk w b 5 C) (hC : C = (l.map B8).toArray) : Rd w (fun k => k = b) (some ⟨b, 0, none⟩) l := by
  intro i hi
  refine ⟨_, rfl, rfl, ?_⟩
  have e : (⟨b, 0, none⟩ : Addr).add i = ⟨b, 0 + i, none⟩ := by unfold Addr.add; split <;> simp_all
  rw [e, h.c, hC]
  simp [hi]
/-- May it be? -/
def idB (t : List UInt8 × Int) : Bool := ((decide (1 ≤ t.1.length) && decide (t.1.length ≤ 255)) && decide (0 ≤ t.2)) && decide (t.2 < 4294967296)
def pB (t : (List UInt8 × Int) × List UInt8) : Bool := idB t.1 && decide (t.2.length = 32)
def sB (t : Int × List UInt8) : Bool := shareB t.1 t.2.length
def ok1C (s : Cl) : Bool := (((((((((decide (s.ses.length ≤ 32) && decide (1 ≤ s.suites.length)) && all16B s.suites 8) && all16B s.vers 4) && all16B s.grps 4) && all16B s.schs 4) && decide (s.shs.length ≤ 4)) && decide (s.cook.length ≤ 64)) && decide (s.modes.length ≤ 4)) && decide (s.ids.length ≤ 4)) && decide (s.ids.length = s.bnd.length)
def ok2C (s : Cl) : Bool := ok1C s && s.shs.all sB
def rokC (s : Cl) : Bool := ok2C s && (s.ids.zip s.bnd).all pB
/-- The bytes. -/
def ageL (n : Int) : List UInt8 := [b8 (n / 16777216), b8 (n / 65536), b8 (n / 256), b8 n]
def rshE (t : Int × List UInt8) : List UInt8 := u16L t.1 ++ vecL 2 t.2
def ridE (t : List UInt8 × Int) : List UInt8 := vecL 2 t.1 ++ ageL t.2
def rshL (l : List (Int × List UInt8)) : List UInt8 := l.flatMap rshE
def ridL (l : List (List UInt8 × Int)) : List UInt8 := l.flatMap ridE
def rbdL (l : List (List UInt8)) : List UInt8 := l.flatMap (vecL 1)
theorem rshL_snoc (l : List (Int × List UInt8)) (a : Int × List UInt8) : rshL (l ++ [a]) = rshL l ++ rshE a := by unfold rshL; simp
theorem ridL_snoc (l : List (List UInt8 × Int)) (a : List UInt8 × Int) : ridL (l ++ [a]) = ridL l ++ ridE a := by unfold ridL; simp
theorem rbdL_snoc (l : List (List UInt8)) (a : List UInt8) : rbdL (l ++ [a]) = rbdL l ++ vecL 1 a := by unfold rbdL; simp
theorem rshE_len (t : Int × List UInt8) : (rshE t).length = t.2.length + 4 := by unfold rshE; rw [List.length_append, u16L_len, vecL_len]; omega
theorem ridE_len (t : List UInt8 × Int) : (ridE t).length = t.1.length + 6 := by unfold ridE; rw [List.length_append, vecL_len]; rfl
theorem flat_le {α : Type} (f : α → List UInt8) (l : List α) (m : Nat) (h : ∀ a ∈ l, (f a).length ≤ m) : (l.flatMap f).length ≤ m * l.length := by
  induction l with
  | nil => simp
  | cons a r ih =>
    rw [List.flatMap_cons, List.length_append, List.length_cons]
    have h1 := h a (by simp)
    have h2 := ih (fun b hb => h b (by simp [hb]))
    rw [Nat.mul_succ]
    omega
theorem sB_le {t : Int × List UInt8} (h : sB t = true) : 0 ≤ t.1 ∧ t.1 ≤ 65535 ∧ 1 ≤ t.2.length ∧ t.2.length ≤ 64 := by
  unfold sB shareB at h
  simp only [Bool.and_eq_true, decide_eq_true_eq] at h
  omega
theorem idB_le {t : List UInt8 × Int} (h : idB t = true) : 1 ≤ t.1.length ∧ t.1.length ≤ 255 ∧ 0 ≤ t.2 ∧ t.2 < 4294967296 := by
  unfold idB at h
  simp only [Bool.and_eq_true, decide_eq_true_eq] at h
  omega
theorem rshL_le {l : List (Int × List UInt8)} (h : l.all sB = true) : (rshL l).length ≤ 68 * l.length := by
  refine flat_le _ _ _ fun a ha => ?_
  have := sB_le (List.all_eq_true.1 h a ha)
  rw [rshE_len]; omega
/-- The extensions, one behind another. -/
def eC1 (s : Cl) : List UInt8 := if 0 < s.vers.length then rextL 43 (vecL 1 (lstL s.vers)) else []
def eC2 (s : Cl) : List UInt8 := if 0 < s.grps.length then eC1 s ++ rextL 10 (vecL 2 (lstL s.grps)) else eC1 s
def eC3 (s : Cl) : List UInt8 := if 0 < s.schs.length then eC2 s ++ rextL 13 (vecL 2 (lstL s.schs)) else eC2 s
def eC4 (s : Cl) : List UInt8 := if 0 < s.shs.length then eC3 s ++ rextL 51 (vecL 2 (rshL s.shs)) else eC3 s
def eC5 (s : Cl) : List UInt8 := if 0 < s.cook.length then eC4 s ++ rextL 44 (vecL 2 s.cook) else eC4 s
def eC6 (s : Cl) : List UInt8 := if 0 < s.modes.length then eC5 s ++ rextL 45 (vecL 1 s.modes) else eC5 s
def eC7 (s : Cl) : List UInt8 := if 0 < s.ids.length then eC6 s ++ rextL 41 (vecL 2 (ridL s.ids) ++ vecL 2 (rbdL s.bnd)) else eC6 s
def rputCL (s : Cl) : List UInt8 := ((([3, 3] ++ s.R) ++ vecL 1 s.ses) ++ vecL 2 (lstL s.suites)) ++ [1, 0] ++ vecL 2 (eC7 s)
structure OkC (s : Cl) : Prop where
  o1 : s.ses.length ≤ 32
  o2 : 1 ≤ s.suites.length
  o3 : all16B s.suites 8 = true
  o4 : all16B s.vers 4 = true
  o5 : all16B s.grps 4 = true
  o6 : all16B s.schs 4 = true
  o7 : s.shs.length ≤ 4
  o8 : s.cook.length ≤ 64
  o9 : s.modes.length ≤ 4
  o10 : s.ids.length ≤ 4
  o11 : s.ids.length = s.bnd.length
theorem ok1C_of {s : Cl} (h : ok1C s = true) : OkC s := by
  unfold ok1C at h
  simp only [Bool.and_eq_true, decide_eq_true_eq] at h
  obtain ⟨⟨⟨⟨⟨⟨⟨⟨⟨⟨h1, h2⟩, h3⟩, h4⟩, h5⟩, h6⟩, h7⟩, h8⟩, h9⟩, h10⟩, h11⟩ := h
  exact ⟨h1, h2, h3, h4, h5, h6, h7, h8, h9, h10, h11⟩
theorem all16_len {l : List Int} {m : Int} (h : all16B l m = true) : (l.length : Int) ≤ m := by
  unfold all16B at h
  simp only [Bool.and_eq_true, decide_eq_true_eq] at h
  exact h.2
theorem ok2C_of {s : Cl} (h : ok2C s = true) : OkC s ∧ s.shs.all sB = true := by
  unfold ok2C at h
  rw [Bool.and_eq_true] at h
  exact ⟨ok1C_of h.1, h.2⟩
theorem rokC_of {s : Cl} (h : rokC s = true) : OkC s ∧ s.shs.all sB = true ∧ (s.ids.zip s.bnd).all pB = true := by
  unfold rokC at h
  rw [Bool.and_eq_true] at h
  exact ⟨(ok2C_of h.1).1, (ok2C_of h.1).2, h.2⟩
theorem zip_all {ids : List (List UInt8 × Int)} {bnd : List (List UInt8)} (hl : ids.length = bnd.length) (h : (ids.zip bnd).all pB = true) : (∀ t ∈ ids, idB t = true) ∧ ∀ b ∈ bnd, b.length = 32 := by
  rw [List.all_eq_true] at h
  constructor
  · intro t ht
    obtain ⟨i, hi, rfl⟩ := List.getElem_of_mem ht
    have hz : i < (ids.zip bnd).length := by simp; omega
    have := h ((ids.zip bnd)[i]'hz) (List.getElem_mem hz)
    simp only [List.getElem_zip] at this
    unfold pB at this
    rw [Bool.and_eq_true] at this
    exact this.1
  · intro b hb
    obtain ⟨i, hi, rfl⟩ := List.getElem_of_mem hb
    have hz : i < (ids.zip bnd).length := by simp; omega
    have := h ((ids.zip bnd)[i]'hz) (List.getElem_mem hz)
    simp only [List.getElem_zip] at this
    unfold pB at this
    rw [Bool.and_eq_true, decide_eq_true_eq] at this
    exact this.2
theorem ridL_le {l : List (List UInt8 × Int)} (h : ∀ t ∈ l, idB t = true) : (ridL l).length ≤ 261 * l.length := by
  refine flat_le _ _ _ fun a ha => ?_
  have := idB_le (h a ha)
  rw [ridE_len]; omega
theorem rbdL_le {l : List (List UInt8)} (h : ∀ b ∈ l, b.length = 32) : (rbdL l).length ≤ 33 * l.length := by
  refine flat_le _ _ _ fun a ha => ?_
  have := h a ha
  rw [vecL_len]; omega
theorem rext_le (a k : Nat) (x l : List UInt8) (kind : Int) (hx : x.length ≤ a) (hl : l.length ≤ k) (b : Prop) [Decidable b] : (if b then x ++ rextL kind l else x).length ≤ a + k + 4 := by
  split
  · rw [List.length_append, rextL_len]; omega
  · omega
theorem eC_le {s : Cl} (h : rokC s = true) : (eC1 s).length ≤ 20 ∧ (eC2 s).length ≤ 40 ∧ (eC3 s).length ≤ 60 ∧ (eC4 s).length ≤ 400 ∧ (eC5 s).length ≤ 500 ∧ (eC6 s).length ≤ 520 ∧ (eC7 s).length ≤ 2000 := by
  obtain ⟨h1, h2, h3⟩ := rokC_of h
  obtain ⟨h4, h5⟩ := zip_all h1.o11 h3
  have a4 := all16_len h1.o4
  have a5 := all16_len h1.o5
  have a6 := all16_len h1.o6
  have b7 := rshL_le h2
  have b9 := ridL_le h4
  have b10 := rbdL_le h5
  have c7 := h1.o7
  have c8 := h1.o8
  have c9 := h1.o9
  have c10 := h1.o10
  have c11 := h1.o11
  have e1 : (eC1 s).length ≤ 20 := by
    unfold eC1
    split
    · rw [rextL_len, vecL_len, lstL_len]; omega
    · simp
  have e2 : (eC2 s).length ≤ 20 + 10 + 4 := rext_le 20 10 _ _ _ e1 (by rw [vecL_len, lstL_len]; omega) _
  have e3 : (eC3 s).length ≤ 34 + 10 + 4 := rext_le 34 10 _ _ _ e2 (by rw [vecL_len, lstL_len]; omega) _
  have e4 : (eC4 s).length ≤ 48 + 274 + 4 := rext_le 48 274 _ _ _ e3 (by rw [vecL_len]; omega) _
  have e5 : (eC5 s).length ≤ 326 + 66 + 4 := rext_le 326 66 _ _ _ e4 (by rw [vecL_len]; omega) _
  have e6 : (eC6 s).length ≤ 396 + 5 + 4 := rext_le 396 5 _ _ _ e5 (by rw [vecL_len]; omega) _
  have e7 : (eC7 s).length ≤ 405 + 1200 + 4 := rext_le 405 1200 _ _ _ e6 (by rw [List.length_append, vecL_len, vecL_len]; omega) _
  omega
end Go.Proofs.Ytegmimnhkohaoaa
/-
  Plain laws: what hello.PutServer puts is what the document puts. No condition.
-/
namespace Go.Proofs.Ytegmimnhkohaoaa
open Go.RowKit Go.Kx
set_option linter.unusedVariables false
set_option linter.unusedSimpArgs false

/-- A writer that has L, if ok; else it is bad. -/
def Is (x : WS) (L : List UInt8) (ok : Bool) : Prop := (ok = true → x = (L, false)) ∧ (ok = false → x.2 = true)
theorem Is.nil : Is ([], false) [] true := ⟨fun _ => rfl, fun h => by cases h⟩
theorem Is.eq {x : WS} {L M : List UInt8} {a b : Bool} (h : Is x L a) (hb : a = b) (hL : b = true → L = M) : Is x M b := by
  subst hb
  exact ⟨fun hk => by rw [h.1 hk, hL hk], h.2⟩
theorem wU_bad {x : WS} (n W : Int) (h : x.2 = true) : (wU x n W).2 = true := by unfold wU; split; exact h; rfl
theorem wV_bad {x : WS} (v : List UInt8) (W l m : Int) (h : x.2 = true) : (wV x v W l m).2 = true := by unfold wV; split; simp [h]; rfl
theorem Is.M {x : WS} {L : List UInt8} {ok : Bool} (h : Is x L ok) (b : Bool) : Is (wM x b) L (ok && b) := by
  constructor
  · intro hk
    simp only [Bool.and_eq_true] at hk
    rw [h.1 hk.1]
    unfold wM
    simp [hk.2]
  · intro hk
    unfold wM
    cases ok
    · simp [h.2 rfl]
    · simp at hk
      simp [hk]
theorem putOk_2 (n : Int) : putOk n 2 ↔ in16 n = true := by
  unfold putOk in16
  have e : (256 : Int) ^ (2 : Int).toNat = 65536 := by decide
  rw [e]
  simp
  omega
theorem putOk_1 (n : Int) : putOk n 1 ↔ (0 ≤ n ∧ n ≤ 255) := by
  unfold putOk
  have e : (256 : Int) ^ (1 : Int).toNat = 256 := by decide
  rw [e]
  omega
theorem Is.U {x : WS} {L : List UInt8} {ok : Bool} (h : Is x L ok) (n : Int) : Is (wU x n 2) (L ++ be n.toNat 2) (ok && in16 n) := by
  constructor
  · intro hk
    simp only [Bool.and_eq_true] at hk
    rw [h.1 hk.1]
    unfold wU
    rw [if_pos ((putOk_2 n).2 hk.2)]
    rfl
  · intro hk
    cases ok
    · exact wU_bad n 2 (h.2 rfl)
    · simp only [Bool.true_and] at hk
      unfold wU
      rw [if_neg (fun hh => by rw [(putOk_2 n).1 hh] at hk; cases hk)]
theorem Is.U0 {x : WS} {L : List UInt8} {ok : Bool} (h : Is x L ok) : Is (wU x 0 1) (L ++ [0]) ok := by
  constructor
  · intro hk
    rw [h.1 hk]
    unfold wU
    rw [if_pos ((putOk_1 0).2 (by omega))]
    rfl
  · intro hk
    exact wU_bad 0 1 (h.2 hk)
theorem Is.V2 {x : WS} {L : List UInt8} {ok : Bool} (h : Is x L ok) (v : List UInt8) (l m : Nat) (hm : m ≤ 65535) : Is (wV x v 2 l m) (L ++ vecL 2 v) (ok && (decide (l ≤ v.length) && decide (v.length ≤ m))) := by
  constructor
  · intro hk
    simp only [Bool.and_eq_true, decide_eq_true_eq] at hk
    rw [h.1 hk.1]
    unfold wV
    rw [if_pos ((putOk_2 _).2 (by unfold in16; simp; omega))]
    have h1 : decide ((l : Int) ≤ (v.length : Int)) = true := decide_eq_true (by omega)
    have h2 : decide ((v.length : Int) ≤ (m : Int)) = true := decide_eq_true (by omega)
    rw [h1, h2]
    rfl
  · intro hk
    cases ok
    · exact wV_bad v 2 l m (h.2 rfl)
    · simp only [Bool.true_and] at hk
      unfold wV
      split
      · have : (decide ((l : Int) ≤ (v.length : Int)) && decide ((v.length : Int) ≤ (m : Int))) = false := by
          rw [← hk]
          congr 1 <;> rw [Bool.eq_iff_iff] <;> simp
        simp only [this]
        simp
      · rfl
theorem Is.V1 {x : WS} {L : List UInt8} {ok : Bool} (h : Is x L ok) (v : List UInt8) (l m : Nat) (hm : m ≤ 255) : Is (wV x v 1 l m) (L ++ vecL 1 v) (ok && (decide (l ≤ v.length) && decide (v.length ≤ m))) := by
  constructor
  · intro hk
    simp only [Bool.and_eq_true, decide_eq_true_eq] at hk
    rw [h.1 hk.1]
    unfold wV
    rw [if_pos ((putOk_1 _).2 (by omega))]
    have h1 : decide ((l : Int) ≤ (v.length : Int)) = true := decide_eq_true (by omega)
    have h2 : decide ((v.length : Int) ≤ (m : Int)) = true := decide_eq_true (by omega)
    rw [h1, h2]
    rfl
  · intro hk
    cases ok
    · exact wV_bad v 1 l m (h.2 rfl)
    · simp only [Bool.true_and] at hk
      unfold wV
      split
      · have : (decide ((l : Int) ≤ (v.length : Int)) && decide ((v.length : Int) ≤ (m : Int))) = false := by
          rw [← hk]
          congr 1 <;> rw [Bool.eq_iff_iff] <;> simp
        simp only [this]
        simp
      · rfl
theorem Is.N2 {x y : WS} {L M : List UInt8} {ok ok2 : Bool} (h : Is x L ok) (k : Is y M ok2) : Is (wN x y 2) (L ++ vecL 2 M) ((ok && ok2) && decide (M.length ≤ 65535)) := by
  unfold wN
  cases ok2
  · have hb : (wM x (!y.2)).2 = true := by unfold wM; simp [k.2 rfl]
    exact ⟨fun hk => by simp at hk, fun _ => wV_bad _ _ _ _ hb⟩
  · rw [k.1 rfl]
    have h2 := (h.M (!false)).V2 M 0 65535 (Nat.le_refl _)
    refine h2.eq ?_ (fun _ => rfl)
    simp
theorem u16L_in {n : Int} (h : in16 n = true) : be n.toNat 2 = u16L n := by
  unfold in16 at h
  simp only [Bool.and_eq_true, decide_eq_true_eq] at h
  obtain ⟨N, rfl⟩ : ∃ N : Nat, n = N := ⟨n.toNat, by omega⟩
  rw [u16L_nat N (by omega)]
  rfl
theorem Is.P {x y : WS} {L M : List UInt8} {ok ok2 : Bool} (h : Is x L ok) (kind : Nat) (hk : kind ≤ 65535) (there : Bool) (k : Is y M ok2) :
    Is (wP x kind there y) (if there then L ++ rextL kind M else L) (ok && (!there || (ok2 && decide (M.length ≤ 65535)))) := by
  unfold wP
  cases there
  · simpa using h
  · simp only [if_true, Bool.not_true, Bool.false_or]
    have hin : in16 (kind : Int) = true := by unfold in16; simp; omega
    cases ok2
    · have hb : (wM x (!y.2)).2 = true := by unfold wM; simp [k.2 rfl]
      exact ⟨fun hk => by simp at hk, fun _ => wV_bad _ _ _ _ (wU_bad _ _ hb)⟩
    · rw [k.1 rfl]
      have h2 := (((h.M (!false)).U kind).V2 M 0 65535 (Nat.le_refl _))
      refine h2.eq ?_ (fun _ => ?_)
      · rw [hin]; simp
      · unfold rextL
        rw [u16L_in hin, List.append_assoc]
        rfl
theorem Is.app {x : WS} {L : List UInt8} {ok : Bool} (h : Is x L ok) (M : List UInt8) : Is (x.1 ++ M, x.2) (L ++ M) ok :=
  ⟨fun hk => by rw [h.1 hk], fun hk => h.2 hk⟩

/-- What PutServer puts: the document's bytes, if it may be put. -/
theorem putS_is (s : Sv) : Is (putS s) (rputL s) (rokS s) := by
  have h1 : Is (yA1 s) (be s.ver.toNat 2) (in16 s.ver) := (Is.nil.U s.ver).eq (by simp) (fun _ => rfl)
  have h4 : Is (yA4 s) (be s.psk.toNat 2) (in16 s.psk) := (Is.nil.U s.psk).eq (by simp) (fun _ => rfl)
  have h3 : Is (yA3 s) (vecL 2 s.cook) (decide (1 ≤ s.cook.length) && decide (s.cook.length ≤ 64)) := (Is.nil.V2 s.cook 1 64 (by omega)).eq (by simp) (fun _ => rfl)
  have h2 : Is (yA2 s) (if s.retry then be s.grp.toNat 2 else be s.grp.toNat 2 ++ vecL 2 s.key) (in16 s.grp && (s.retry || (decide (1 ≤ s.key.length) && decide (s.key.length ≤ 64)))) := by
    unfold yA2
    cases hr : s.retry
    · simp only [Bool.false_eq_true, if_false, Bool.false_or]
      exact ((Is.nil.U s.grp).V2 s.key 1 64 (by omega)).eq (by simp) (fun _ => by simp)
    · simp only [if_true, Bool.true_or, Bool.and_true]
      exact (Is.nil.U s.grp).eq (by simp) (fun _ => rfl)
  have hA := (((Is.nil.P 43 (by omega) true h1).P 51 (by omega) (s.grp != 0) h2).P 44 (by omega) (s.retry && decide (0 < s.cook.length)) h3).P 41 (by omega) (decide (0 ≤ s.psk)) h4
  have hx := (((((Is.nil.M (fitsS s)).U 771).app (rndS s)).V1 s.ses 0 32 (by omega)).U s.suite).U0.N2 hA
  refine Is.eq hx ?_ ?_
  · have hm : max s.psk 0 = if 0 ≤ s.psk then s.psk else 0 := by split <;> omega
    rw [Bool.eq_iff_iff]
    unfold rokS ok1B ok2B fitsS all16B shareB
    rw [hm]
    by_cases hr : s.retry = true <;> by_cases hg : s.grp = 0 <;> by_cases hp : 0 ≤ s.psk <;> by_cases hR : s.R = retryL <;> by_cases hc : 0 < s.cook.length <;>
      simp [hr, hg, hp, hR, hc, in16, vecL_len, rextL_len, be_length, -List.length_eq_zero_iff] <;> (try omega)
  · intro hok
    have hm : max s.psk 0 = if 0 ≤ s.psk then s.psk else 0 := by split <;> omega
    unfold rokS ok1B ok2B all16B at hok
    rw [hm] at hok
    have i1 : in16 s.suite = true := by simp at hok; exact hok.1.2.1.1
    have i2 : in16 s.ver = true := by simp at hok; exact hok.1.2.1.2.1
    have i3 : in16 s.grp = true := by simp at hok; exact hok.1.2.1.2.2.1
    have i4 : 0 ≤ s.psk → in16 s.psk = true := by
      intro h
      rw [if_pos h] at hok
      simp at hok
      exact hok.1.2.1.2.2.2
    have i5 : s.retry = false → s.cook.length = 0 := by
      intro h
      rw [h] at hok
      simp [-List.length_eq_zero_iff] at hok
      exact hok.2.1.2
    have e771 : be (771 : Int).toNat 2 = [3, 3] := rfl
    unfold rputL e4S e3S e2S e1S vS
    rw [u16L_in i1, u16L_in i2, u16L_in i3, e771]
    clear hx hA h1 h2 h3 h4 hok hm
    by_cases hr : s.retry = true
    · by_cases hg : s.grp = 0 <;> by_cases hp : 0 ≤ s.psk <;> by_cases hc : s.cook.length = 0 <;>
        first
          | (have h5 := u16L_in (i4 hp); have hc2 : ¬ 0 < s.cook.length := (by omega); simp [hr, hg, hp, hc, hc2, h5, -List.length_eq_zero_iff])
          | (have h5 := u16L_in (i4 hp); have hc2 : 0 < s.cook.length := (by omega); simp [hr, hg, hp, hc, hc2, h5, -List.length_eq_zero_iff])
          | (have hc2 : ¬ 0 < s.cook.length := (by omega); simp [hr, hg, hp, hc, hc2, -List.length_eq_zero_iff])
          | (have hc2 : 0 < s.cook.length := (by omega); simp [hr, hg, hp, hc, hc2, -List.length_eq_zero_iff])
    · have hr' : s.retry = false := by simpa using hr
      have hc := i5 hr'
      by_cases hg : s.grp = 0 <;> by_cases hp : 0 ≤ s.psk <;>
        first
          | (have h5 := u16L_in (i4 hp); simp [hr', hg, hp, hc, h5, -List.length_eq_zero_iff])
          | simp [hr', hg, hp, hc, -List.length_eq_zero_iff]
end Go.Proofs.Ytegmimnhkohaoaa
/-
  Plain laws: what PutServer puts GetServer reads again. No condition.
-/
namespace Go.Proofs.Ytegmimnhkohaoaa
open Go.RowKit Go.Kx
set_option linter.unusedVariables false
set_option linter.unusedSimpArgs false

theorem rU_be (n W : Nat) (hW : 1 ≤ W ∧ W ≤ 4) (h : n < 256 ^ W) (t : List UInt8) : rU (be n W ++ t) 0 (W : Int) = ((n : Int), t, 0) := by
  obtain ⟨a1, a2, a3⟩ := S_app (be n W) t (W : Int) (by rw [be_length])
  unfold rU
  rw [wb_ok hW, a1, a2, a3, beN_be h]
theorem u16L_be {n : Int} (h : in16 n = true) : ∃ N : Nat, n = (N : Int) ∧ N < 65536 ∧ u16L n = be N 2 := by
  have h2 := u16L_in h
  unfold in16 at h
  simp only [Bool.and_eq_true, decide_eq_true_eq] at h
  exact ⟨n.toNat, by omega, by omega, h2.symm⟩
theorem rU_u16 {n : Int} (h : in16 n = true) (t : List UInt8) : rU (u16L n ++ t) 0 2 = (n, t, 0) := by
  obtain ⟨N, rfl, h2, h3⟩ := u16L_be h
  rw [h3]
  exact rU_be N 2 (by omega) (by simpa using h2) t
theorem rU_u16' {n : Int} (h : in16 n = true) : rU (u16L n) 0 2 = (n, [], 0) := by
  have := rU_u16 h []
  rwa [List.append_nil] at this
theorem rU_one (t : List UInt8) : rU (0 :: t) 0 1 = (0, t, 0) := rU_be 0 1 (by omega) (by decide) t
theorem mustS_u16 {n : Int} (h : in16 n = true) (t : List UInt8) : mustS (u16L n ++ t) 0 n 2 = (t, 0) := by
  unfold mustS
  rw [rU_u16 h]
  simp
theorem mustS_zero (t : List UInt8) : mustS (0 :: t) 0 0 1 = (t, 0) := by
  unfold mustS
  rw [rU_one]
  simp
theorem vecS_1 (v t : List UInt8) (l m : Nat) (h1 : l ≤ v.length) (h2 : v.length ≤ m) (h3 : m ≤ 255) : vecS (vecL 1 v ++ t) 0 1 l m = (v, t, 0) := by
  unfold vecL
  rw [List.append_assoc]
  exact vec_read (W := 1) (by omega) (by simp only [Nat.pow_one]; omega) (by omega) (by omega)
theorem vecS_2 (v t : List UInt8) (l m : Nat) (h1 : l ≤ v.length) (h2 : v.length ≤ m) (h3 : m ≤ 65535) : vecS (vecL 2 v ++ t) 0 2 l m = (v, t, 0) := by
  unfold vecL
  rw [List.append_assoc]
  exact vec_read (W := 2) (by omega) (by simp only [Nat.reducePow]; omega) (by omega) (by omega)
theorem vecS_2' (v : List UInt8) (l m : Nat) (h1 : l ≤ v.length) (h2 : v.length ≤ m) (h3 : m ≤ 65535) : vecS (vecL 2 v) 0 2 l m = (v, [], 0) := by
  have := vecS_2 v [] l m h1 h2 h3
  rwa [List.append_nil] at this
theorem headS_ext (had : List Int) (kind : Int) (hin : in16 kind = true) (body t : List UInt8) (hb : body.length ≤ 65535) (hn : kind ∉ had) : headS had (rextL kind body ++ t) = (kind, body, t, 0) := by
  unfold headS rextL
  have e : u16L kind ++ (be body.length 2 ++ body) ++ t = u16L kind ++ (vecL 2 body ++ t) := by unfold vecL; simp
  rw [e, rU_u16 hin]
  have h2 := vecS_2 body t 0 65535 (by omega) hb (by omega)
  simp only [Int.ofNat_zero] at h2
  have h3 : vecS (vecL 2 body ++ t) 0 2 0 65535 = (body, t, 0) := h2
  simp only [h3, if_neg hn]
section
variable {σ : Type} (F : σ → Int → List UInt8 → Bool → σ × List UInt8 × Int)
theorem extsL_ext (n : Nat) (hn : 0 < n) (st st' : σ) (had : List Int) (kind : Int) (hk : in16 kind = true) (body t : List UInt8) (hb : body.length ≤ 65535) (hh : kind ∉ had) (hF : F st kind body (decide (t = [])) = (st', [], 0)) :
    extsL F n st had (rextL kind body ++ t) 0 = extsL F (n - 1) st' (kind :: had) t 0 := by
  obtain ⟨m, rfl⟩ : ∃ m, n = m + 1 := ⟨n - 1, by omega⟩
  rw [extsL_go F m st had _ (by intro h; have := congrArg List.length h; rw [List.length_append, rextL_len] at this; simp at this), headS_ext had kind hk body t hb hh]
  simp only [hF]
  rfl
theorem extsL_ext' (n : Nat) (hn : 0 < n) (st st' : σ) (had : List Int) (kind : Int) (hk : in16 kind = true) (body : List UInt8) (hb : body.length ≤ 65535) (hh : kind ∉ had) (hF : F st kind body true = (st', [], 0)) :
    extsL F n st had (rextL kind body) 0 = (st', [], 0) := by
  have h := extsL_ext F n hn st st' had kind hk body [] hb hh (by simpa using hF)
  rw [List.append_nil] at h
  rw [h, extsL_stop _ _ _ _ _ _ (.inl rfl)]
end

theorem srvF_43 (st : Sv) {n : Int} (h : in16 n = true) (last : Bool) : srvF st 43 (u16L n) last = ({ st with ver := n }, [], 0) := by
  unfold srvF
  rw [if_pos rfl, rU_u16' h]
theorem srvF_41 (st : Sv) {n : Int} (h : in16 n = true) (last : Bool) (hr : st.retry = false) : srvF st 41 (u16L n) last = ({ st with psk := n }, [], 0) := by
  unfold srvF
  rw [if_neg (by decide), if_neg (by decide), if_neg (by decide), if_pos rfl, hr, if_neg Bool.false_ne_true, rU_u16' h]
theorem srvF_44 (st : Sv) (v : List UInt8) (last : Bool) (hr : st.retry = true) (h1 : 1 ≤ v.length) (h2 : v.length ≤ 64) : srvF st 44 (vecL 2 v) last = ({ st with cook := v }, [], 0) := by
  unfold srvF
  rw [if_neg (by decide), if_neg (by decide), if_pos rfl, hr, if_pos rfl]
  have h := vecS_2' v 1 64 h1 h2 (by omega)
  have h' : vecS (vecL 2 v) 0 2 1 64 = (v, [], 0) := h
  rw [h']
theorem srvF_51r (st : Sv) {n : Int} (h : in16 n = true) (last : Bool) (hr : st.retry = true) (hn : n ≠ 0) : srvF st 51 (u16L n) last = ({ st with grp := n }, [], 0) := by
  unfold srvF
  rw [if_neg (by decide), if_pos rfl, hr, if_pos rfl, rU_u16' h]
  simp [hn, hr]
theorem srvF_51 (st : Sv) {n : Int} (h : in16 n = true) (v : List UInt8) (last : Bool) (hr : st.retry = false) (hn : n ≠ 0) (h1 : 1 ≤ v.length) (h2 : v.length ≤ 64) : srvF st 51 (u16L n ++ vecL 2 v) last = ({ st with grp := n, key := v }, [], 0) := by
  unfold srvF
  rw [if_neg (by decide), if_pos rfl, hr, if_neg Bool.false_ne_true, rU_u16 h]
  have h3 := vecS_2' v 1 64 h1 h2 (by omega)
  have h' : vecS (vecL 2 v) 0 2 1 64 = (v, [], 0) := h3
  simp only [h', if_neg hn]

/-- What comes back. -/
def backS (s : Sv) : Sv := if s.retry then { s with R := List.replicate 32 0 } else s
theorem rokS_in {s : Sv} (h : rokS s = true) : in16 s.suite = true ∧ in16 s.ver = true ∧ in16 s.grp = true ∧ (0 ≤ s.psk → in16 s.psk = true) ∧ -1 ≤ s.psk := by
  have hm : max s.psk 0 = if 0 ≤ s.psk then s.psk else 0 := by split <;> omega
  unfold rokS ok1B all16B at h
  rw [hm] at h
  simp at h
  refine ⟨h.1.2.1.1, h.1.2.1.2.1, h.1.2.1.2.2.1, fun hp => ?_, h.1.2.2.1⟩
  have := h.1.2.1.2.2.2
  rwa [if_pos hp] at this
theorem rokS_retry {s : Sv} (h : rokS s = true) (hr : s.retry = true) : s.key = [] ∧ s.psk = -1 ∧ (s.grp ≠ 0 ∨ 0 < s.cook.length) := by
  unfold rokS ok2B at h
  rw [hr] at h
  simp at h
  exact ⟨h.2.1.1, h.2.1.2, h.2.2⟩
theorem rokS_plain {s : Sv} (h : rokS s = true) (hr : s.retry = false) : s.R ≠ retryL ∧ s.cook = [] ∧ (if s.grp = 0 then s.key = [] else 1 ≤ s.key.length ∧ s.key.length ≤ 64) := by
  unfold rokS ok2B shareB at h
  rw [hr] at h
  simp at h
  refine ⟨h.2.1.1, h.2.1.2, ?_⟩
  split
  · rename_i hg
    have := h.2.2
    rw [if_pos hg] at this
    simpa using this
  · rename_i hg
    have := h.2.2
    rw [if_neg hg] at this
    exact this.2
theorem exts_back (s : Sv) (h : rokS s = true) (R ses : List UInt8) (suite : Int) (n : Nat) (hn : 4 ≤ n) :
    extsL srvF n ⟨R, ses, suite, 771, 0, [], s.retry, [], -1⟩ [] (e4S s) 0 = (⟨R, ses, suite, s.ver, s.grp, s.key, s.retry, s.cook, s.psk⟩, [], 0) := by
  obtain ⟨i1, i2, i3, i4, i5⟩ := rokS_in h
  obtain ⟨l1, l2, l3⟩ := rokS_le h
  obtain ⟨sR, sses, ssuite, sver, sgrp, skey, sretry, scook, spsk⟩ := s
  simp only at i1 i2 i3 i4 i5 l1 l2 l3 ⊢
  cases sretry
  · obtain ⟨-, hc, hg⟩ := rokS_plain h rfl
    simp only at hc hg
    subst hc
    unfold e4S e3S e2S e1S vS
    simp only [List.length_nil, if_true, Bool.false_eq_true, if_false]
    by_cases hg0 : sgrp = 0
    · subst hg0
      rw [if_pos rfl] at hg
      subst hg
      simp only [if_true]
      by_cases hp : 0 ≤ spsk
      · rw [if_pos hp, extsL_ext srvF n (by omega) _ _ [] 43 (by decide) (u16L sver) _ (by rw [u16L_len]; omega) (by simp) (srvF_43 _ i2 _)]
        exact extsL_ext' srvF _ (by omega) _ _ _ 41 (by decide) _ (by rw [u16L_len]; omega) (by simp) (srvF_41 _ (i4 hp) _ rfl)
      · obtain rfl : spsk = -1 := by omega
        rw [if_neg hp]
        exact extsL_ext' srvF _ (by omega) _ _ _ 43 (by decide) _ (by rw [u16L_len]; omega) (by simp) (srvF_43 _ i2 _)
    · rw [if_neg hg0] at hg
      rw [if_neg hg0]
      have hl : (u16L sgrp ++ vecL 2 skey).length ≤ 65535 := by rw [List.length_append, u16L_len, vecL_len]; omega
      by_cases hp : 0 ≤ spsk
      · rw [if_pos hp, List.append_assoc, extsL_ext srvF n (by omega) _ _ [] 43 (by decide) (u16L sver) _ (by rw [u16L_len]; omega) (by simp) (srvF_43 _ i2 _),
          extsL_ext srvF _ (by omega) _ _ _ 51 (by decide) _ _ hl (by simp) (srvF_51 _ i3 _ _ rfl hg0 hg.1 hg.2)]
        exact extsL_ext' srvF _ (by omega) _ _ _ 41 (by decide) _ (by rw [u16L_len]; omega) (by simp) (srvF_41 _ (i4 hp) _ rfl)
      · obtain rfl : spsk = -1 := by omega
        rw [if_neg hp, extsL_ext srvF n (by omega) _ _ [] 43 (by decide) (u16L sver) _ (by rw [u16L_len]; omega) (by simp) (srvF_43 _ i2 _)]
        exact extsL_ext' srvF _ (by omega) _ _ _ 51 (by decide) _ hl (by simp) (srvF_51 _ i3 _ _ rfl hg0 hg.1 hg.2)
  · obtain ⟨hk, hp, hg⟩ := rokS_retry h rfl
    simp only at hk hp hg
    subst hk hp
    have hp' : ¬ (0 : Int) ≤ -1 := by omega
    unfold e4S e3S e2S e1S vS
    simp only [if_true, if_neg hp']
    by_cases hg0 : sgrp = 0
    · subst hg0
      have hc : 0 < scook.length := by rcases hg with h | h; exact absurd rfl h; exact h
      rw [if_neg (by omega)]
      simp only [if_true]
      rw [extsL_ext srvF n (by omega) _ _ [] 43 (by decide) (u16L sver) _ (by rw [u16L_len]; omega) (by simp) (srvF_43 _ i2 _)]
      exact extsL_ext' srvF _ (by omega) _ _ _ 44 (by decide) _ (by rw [vecL_len]; omega) (by simp) (srvF_44 _ _ _ rfl hc l3)
    · rw [if_neg hg0]
      by_cases hc : scook.length = 0
      · obtain rfl : scook = [] := List.eq_nil_of_length_eq_zero hc
        simp only [List.length_nil, if_true]
        rw [extsL_ext srvF n (by omega) _ _ [] 43 (by decide) (u16L sver) _ (by rw [u16L_len]; omega) (by simp) (srvF_43 _ i2 _)]
        exact extsL_ext' srvF _ (by omega) _ _ _ 51 (by decide) _ (by rw [u16L_len]; omega) (by simp) (srvF_51r _ i3 _ rfl hg0)
      · rw [if_neg hc, List.append_assoc, extsL_ext srvF n (by omega) _ _ [] 43 (by decide) (u16L sver) _ (by rw [u16L_len]; omega) (by simp) (srvF_43 _ i2 _),
          extsL_ext srvF _ (by omega) _ _ _ 51 (by decide) _ _ (by rw [u16L_len]; omega) (by simp) (srvF_51r _ i3 _ rfl hg0)]
        exact extsL_ext' srvF _ (by omega) _ _ _ 44 (by decide) _ (by rw [vecL_len]; omega) (by simp) (srvF_44 _ _ _ rfl (by omega) l3)

theorem getS_back (s : Sv) (hR : s.R.length = 32) (h : rokS s = true) : getS (rputL s) = (backS s, 0) := by
  obtain ⟨i1, i2, i3, i4, i5⟩ := rokS_in h
  obtain ⟨l1, l2, l3⟩ := rokS_le h
  have hrl := rndS_len hR
  have e0 : rputL s = u16L 771 ++ (rndS s ++ (vecL 1 s.ses ++ (u16L s.suite ++ (0 :: vecL 2 (e4S s))))) := by
    unfold rputL
    simp
    rfl
  rw [e0]
  unfold getS
  rw [mustS_u16 (by decide)]
  unfold gsT
  obtain ⟨a1, a2, a3⟩ := S_app (rndS s) (vecL 1 s.ses ++ (u16L s.suite ++ (0 :: vecL 2 (e4S s)))) 32 (by rw [hrl]; rfl)
  simp only [a1, a2, a3]
  have hg : rndG (rndS s) = rndS s := by
    unfold rndG
    rw [hrl]
    simp
  rw [hg]
  unfold gsU
  have hv : vecS (vecL 1 s.ses ++ (u16L s.suite ++ (0 :: vecL 2 (e4S s)))) 0 1 0 32 = (s.ses, u16L s.suite ++ (0 :: vecL 2 (e4S s)), 0) := vecS_1 s.ses _ 0 32 (by omega) l1 (by omega)
  simp only [hv]
  unfold gsV
  simp only [rU_u16 i1, mustS_zero]
  unfold gsX
  have he : vecS (vecL 2 (e4S s)) 0 2 0 65535 = (e4S s, [], 0) := vecS_2' (e4S s) 0 65535 (by omega) (by have := e4S_le ⟨l2, l3⟩; omega) (by omega)
  simp only [he]
  have hpos : 4 ≤ (e4S s).length + 1 := by
    have h3 : 6 ≤ (e4S s).length := by
      have k1 : (e1S s).length = 6 := rfl
      have k2 : (e1S s).length ≤ (e2S s).length := by unfold e2S; split <;> simp
      have k3 : (e2S s).length ≤ (e3S s).length := by unfold e3S; split <;> simp
      have k4 : (e3S s).length ≤ (e4S s).length := by unfold e4S; split <;> simp
      omega
    omega
  cases hr : s.retry
  · obtain ⟨hne, hc, hgk⟩ := rokS_plain h hr
    have h1 : getS1 (rndS s) = ⟨s.R, [], 0, 771, 0, [], s.retry, [], -1⟩ := by
      unfold getS1 rndS
      rw [hr, if_neg Bool.false_ne_true, if_neg hne]
      rfl
    rw [h1]
    simp only
    rw [exts_back s h _ _ _ _ hpos]
    simp only
    have hb : gsB ⟨s.R, s.ses, s.suite, s.ver, s.grp, s.key, s.retry, s.cook, s.psk⟩ (insB 0 ([], 0)) = 0 := by
      unfold gsB
      rw [if_neg (by simp only [hr]; simp)]
      rfl
    rw [hb]
    unfold gsZ backS
    rw [hr, if_neg Bool.false_ne_true, if_pos (show doneS [] 0 = 0 from rfl)]
    obtain ⟨sR, sses, ssuite, sver, sgrp, skey, sretry, scook, spsk⟩ := s
    simp only at hr
    rw [hr]
  · obtain ⟨hk, hp, hgk⟩ := rokS_retry h hr
    have h1 : getS1 (rndS s) = ⟨List.replicate 32 0, [], 0, 771, 0, [], s.retry, [], -1⟩ := by
      unfold getS1 rndS
      rw [hr, if_pos rfl, if_pos rfl]
      rfl
    rw [h1]
    simp only
    rw [exts_back s h _ _ _ _ hpos]
    simp only
    have hb : gsB ⟨List.replicate 32 0, s.ses, s.suite, s.ver, s.grp, s.key, s.retry, s.cook, s.psk⟩ (insB 0 ([], 0)) = 0 := by
      unfold gsB
      rw [if_neg (by
        rintro ⟨-, h2, h3⟩
        simp only at h2 h3
        rcases hgk with h | h
        · exact h h2
        · omega)]
      rfl
    rw [hb]
    unfold gsZ backS
    rw [hr, if_pos rfl, if_pos (show doneS [] 0 = 0 from rfl)]
end Go.Proofs.Ytegmimnhkohaoaa
/-
  Plain laws: what relayref08.PutClient puts GetClient reads again, whatever unknown extension stands behind it. No condition.
-/
namespace Go.Proofs.Ytegmimnhkohaoaa
open Go.RowKit Go.Kx
set_option linter.unusedVariables false
set_option linter.unusedSimpArgs false

/-! ### One element after another -/
theorem loop_flat {α : Type} (F : List UInt8 → α × List UInt8 × Int) (enc : α → List UInt8) : ∀ (l : List α), (∀ a ∈ l, enc a ≠ [] ∧ ∀ t, F (enc a ++ t) = (a, t, 0)) → ∀ n, l.length < n → loopL F n (l.flatMap enc) 0 = (l, [], 0)
  | [], _, n, _ => by rw [List.flatMap_nil, loopL_stop F n [] 0 (.inl rfl)]
  | a :: r, h, n, hn => by
    obtain ⟨m, rfl⟩ : ∃ m, n = m + 1 := ⟨n - 1, by simp at hn; omega⟩
    obtain ⟨h1, h2⟩ := h a (by simp)
    have ih := loop_flat F enc r (fun b hb => h b (by simp [hb])) m (by simp at hn; omega)
    rw [List.flatMap_cons, loopL_go F m _ (by intro e; exact h1 (List.append_eq_nil_iff.1 e).1), h2]
    simp only [ih]
theorem flat_ge {α : Type} (enc : α → List UInt8) : ∀ (l : List α), (∀ a ∈ l, enc a ≠ []) → l.length ≤ (l.flatMap enc).length
  | [], _ => by simp
  | a :: r, h => by
    have ih := flat_ge enc r (fun b hb => h b (by simp [hb]))
    have h1 := h a (by simp)
    have h2 : 0 < (enc a).length := List.length_pos_iff.2 h1
    rw [List.flatMap_cons, List.length_append, List.length_cons]
    omega
theorem read_flat {α : Type} (F : List UInt8 → α × List UInt8 × Int) (enc : α → List UInt8) (W : Nat) (hW : W = 1 ∨ W = 2) (l : List α) (h : ∀ a ∈ l, enc a ≠ [] ∧ ∀ t, F (enc a ++ t) = (a, t, 0)) (hl : (l.flatMap enc).length < 256 ^ W) (t : List UInt8) :
    readS F (vecL W (l.flatMap enc) ++ t) 0 (W : Int) = (l, t, 0) := by
  have hv : vecS (vecL W (l.flatMap enc) ++ t) 0 (W : Int) 0 65535 = (l.flatMap enc, t, 0) := by
    rcases hW with rfl | rfl
    · unfold vecL
      rw [List.append_assoc]
      exact vec_read (W := 1) (by omega) hl (by omega) (by simp only [Nat.pow_one] at hl; omega)
    · exact vecS_2 _ _ 0 65535 (by omega) (by simp only [Nat.reducePow] at hl; omega) (by omega)
  unfold readS
  rw [hv]
  have hg := flat_ge enc l (fun a ha => (h a ha).1)
  simp only [loop_flat F enc l h _ (show l.length < (l.flatMap enc).length + 1 by omega)]
  rfl
theorem uF_enc {n : Int} (h : in16 n = true) : u16L n ≠ [] ∧ ∀ t, uF (u16L n ++ t) = (n, t, 0) := ⟨by simp [u16L], fun t => rU_u16 h t⟩
theorem ageL_be {n : Int} (h0 : 0 ≤ n) (h : n < 4294967296) : ageL n = be n.toNat 4 := by
  obtain ⟨N, rfl⟩ : ∃ N : Nat, n = (N : Int) := ⟨n.toNat, by omega⟩
  have e3 : b8 ((N : Int) / 16777216) = UInt8.ofNat (N / 256 ^ 3) := by
    unfold b8
    apply UInt8.toNat_inj.1
    rw [UInt8.toNat_ofNat', UInt8.toNat_ofNat']
    omega
  have e2 : b8 ((N : Int) / 65536) = UInt8.ofNat (N / 256 ^ 2) := by
    unfold b8
    apply UInt8.toNat_inj.1
    rw [UInt8.toNat_ofNat', UInt8.toNat_ofNat']
    omega
  have e1 : b8 ((N : Int) / 256) = UInt8.ofNat (N / 256 ^ 1) := by
    unfold b8
    apply UInt8.toNat_inj.1
    rw [UInt8.toNat_ofNat', UInt8.toNat_ofNat']
    omega
  have e0 : b8 (N : Int) = UInt8.ofNat (N / 256 ^ 0) := by
    unfold b8
    apply UInt8.toNat_inj.1
    rw [UInt8.toNat_ofNat', UInt8.toNat_ofNat']
    omega
  unfold ageL
  rw [e3, e2, e1, e0]
  rfl
theorem kF_enc {t : Int × List UInt8} (h : sB t = true) : rshE t ≠ [] ∧ ∀ r, kF (rshE t ++ r) = (t, r, 0) := by
  obtain ⟨gr, ke⟩ := t
  have hs := sB_le h
  simp only at hs
  refine ⟨by simp [rshE, u16L], fun r => ?_⟩
  have hin : in16 gr = true := by unfold in16; simp; omega
  unfold kF rshE
  simp only [List.append_assoc]
  rw [rU_u16 hin]
  have hv : vecS (vecL 2 ke ++ r) 0 2 1 64 = (ke, r, 0) := vecS_2 ke r 1 64 (by omega) (by omega) (by omega)
  simp only [hv]
theorem iF_enc {t : List UInt8 × Int} (h : idB t = true) : ridE t ≠ [] ∧ ∀ r, iF (ridE t ++ r) = (t, r, 0) := by
  obtain ⟨ti, ag⟩ := t
  have hs := idB_le h
  simp only at hs
  refine ⟨by simp [ridE, ageL], fun r => ?_⟩
  unfold iF ridE
  simp only [List.append_assoc]
  have hv : vecS (vecL 2 ti ++ (ageL ag ++ r)) 0 2 1 255 = (ti, ageL ag ++ r, 0) := vecS_2 ti _ 1 255 (by omega) (by omega) (by omega)
  rw [hv]
  have hu : rU (ageL ag ++ r) 0 4 = (ag, r, 0) := by
    rw [ageL_be hs.2.2.1 hs.2.2.2]
    have := rU_be ag.toNat 4 (by omega) (by simp only [Nat.reducePow]; omega) r
    have e : ((ag.toNat : Nat) : Int) = ag := by omega
    rw [e] at this
    exact this
  simp only [hu]
theorem bF_enc {b : List UInt8} (h : b.length = 32) : vecL 1 b ≠ [] ∧ ∀ r, bF (vecL 1 b ++ r) = (b, r, 0) := by
  refine ⟨by intro e; have := congrArg List.length e; rw [vecL_len] at this; simp at this, fun r => ?_⟩
  exact vecS_1 b r 32 32 (by omega) (by omega) (by omega)
theorem all16_in {l : List Int} {m : Int} (h : all16B l m = true) : ∀ a ∈ l, in16 a = true := by
  unfold all16B at h
  rw [Bool.and_eq_true, List.all_eq_true] at h
  exact h.1
theorem nums_read {l : List Int} {m : Int} (h : all16B l m = true) (h1 : 1 ≤ l.length) (hm : m ≤ 8) (W : Nat) (hW : W = 1 ∨ W = 2) (t : List UInt8) : numsS (vecL W (lstL l) ++ t) 0 (W : Int) m = (l, t, 0) := by
  have hl := all16_len h
  have hr := read_flat uF u16L W hW l (fun a ha => uF_enc (all16_in h a ha)) (by
    have := lstL_len l
    unfold lstL at this
    rw [this]
    rcases hW with rfl | rfl
    · simp only [Nat.pow_one]; omega
    · simp only [Nat.reducePow]; omega) t
  unfold numsS
  unfold lstL
  rw [hr]
  simp only
  congr 2
  unfold cntB
  rw [if_neg (by omega)]
theorem nums_read' {l : List Int} {m : Int} (h : all16B l m = true) (h1 : 1 ≤ l.length) (hm : m ≤ 8) (W : Nat) (hW : W = 1 ∨ W = 2) : numsS (vecL W (lstL l)) 0 (W : Int) m = (l, [], 0) := by
  have := nums_read h h1 hm W hW []
  rwa [List.append_nil] at this

/-! ### The extensions, step by step -/
/-- From one place on to another. -/
def Reach (st : Cl) (had : List Int) (s : List UInt8) (st' : Cl) (had' : List Int) (t : List UInt8) : Prop := ∀ n, s.length < n → ∃ n', t.length < n' ∧ extsL cliF n st had s 0 = extsL cliF n' st' had' t 0
theorem Reach.trans {st st' st'' : Cl} {had had' had'' : List Int} {s t u : List UInt8} (h : Reach st had s st' had' t) (h2 : Reach st' had' t st'' had'' u) : Reach st had s st'' had'' u := by
  intro n hn
  obtain ⟨n', h3, h4⟩ := h n hn
  obtain ⟨n'', h5, h6⟩ := h2 n' h3
  exact ⟨n'', h5, h4.trans h6⟩
/-- An extension that may be there. -/
def optE (b : Prop) [Decidable b] (kind : Int) (body : List UInt8) : List UInt8 := if b then rextL kind body else []
theorem reach_opt (b : Prop) [Decidable b] (kind : Int) (body : List UInt8) (st st' : Cl) (had : List Int) (t : List UInt8) (hk : in16 kind = true) (hb : body.length ≤ 65535) (hh : kind ∉ had) (hF : b → cliF st kind body (decide (t = [])) = (st', [], 0)) (hn : ¬ b → st' = st) :
    Reach st had (optE b kind body ++ t) st' (if b then kind :: had else had) t := by
  intro n hlt
  unfold optE at hlt ⊢
  by_cases h : b
  · rw [if_pos h] at hlt ⊢
    rw [if_pos h]
    rw [List.length_append, rextL_len] at hlt
    exact ⟨n - 1, by omega, extsL_ext cliF n (by omega) st st' had kind hk body t hb hh (hF h)⟩
  · rw [if_neg h] at hlt ⊢
    rw [if_neg h, hn h]
    exact ⟨n, by simpa using hlt, rfl⟩
theorem cliF_43 (st : Cl) {l : List Int} (h : all16B l 4 = true) (h1 : 1 ≤ l.length) (last : Bool) : cliF st 43 (vecL 1 (lstL l)) last = ({ st with vers := l }, [], 0) := by
  unfold cliF
  rw [if_pos rfl]
  have := nums_read' h h1 (by omega) 1 (.inl rfl)
  rw [show ((1 : Nat) : Int) = 1 from rfl] at this
  rw [this]
theorem cliF_10 (st : Cl) {l : List Int} (h : all16B l 4 = true) (h1 : 1 ≤ l.length) (last : Bool) : cliF st 10 (vecL 2 (lstL l)) last = ({ st with grps := l }, [], 0) := by
  unfold cliF
  rw [if_neg (by decide), if_pos rfl]
  have := nums_read' h h1 (by omega) 2 (.inr rfl)
  rw [show ((2 : Nat) : Int) = 2 from rfl] at this
  rw [this]
theorem cliF_13 (st : Cl) {l : List Int} (h : all16B l 4 = true) (h1 : 1 ≤ l.length) (last : Bool) : cliF st 13 (vecL 2 (lstL l)) last = ({ st with schs := l }, [], 0) := by
  unfold cliF
  rw [if_neg (by decide), if_neg (by decide), if_pos rfl]
  have := nums_read' h h1 (by omega) 2 (.inr rfl)
  rw [show ((2 : Nat) : Int) = 2 from rfl] at this
  rw [this]
theorem cliF_51 (st : Cl) {l : List (Int × List UInt8)} (h : l.all sB = true) (h1 : 1 ≤ l.length) (h4 : l.length ≤ 4) (last : Bool) : cliF st 51 (vecL 2 (rshL l)) last = ({ st with shs := l }, [], 0) := by
  unfold cliF
  rw [if_neg (by decide), if_neg (by decide), if_neg (by decide), if_pos rfl]
  have hl := rshL_le h
  have hr := read_flat kF rshE 2 (.inr rfl) l (fun a ha => kF_enc (List.all_eq_true.1 h a ha)) (by unfold rshL at hl; simp only [Nat.reducePow]; omega) []
  rw [List.append_nil, show ((2 : Nat) : Int) = 2 from rfl] at hr
  unfold keysS rshL
  rw [hr]
  simp only
  congr 2
  unfold cntB
  rw [if_neg (by omega)]
theorem cliF_44 (st : Cl) (v : List UInt8) (last : Bool) (h1 : 1 ≤ v.length) (h2 : v.length ≤ 64) : cliF st 44 (vecL 2 v) last = ({ st with cook := v }, [], 0) := by
  unfold cliF
  rw [if_neg (by decide), if_neg (by decide), if_neg (by decide), if_neg (by decide), if_pos rfl]
  have h := vecS_2' v 1 64 h1 h2 (by omega)
  have h' : vecS (vecL 2 v) 0 2 1 64 = (v, [], 0) := h
  rw [h']
theorem cliF_45 (st : Cl) (v : List UInt8) (last : Bool) (h1 : 1 ≤ v.length) (h2 : v.length ≤ 4) : cliF st 45 (vecL 1 v) last = ({ st with modes := v }, [], 0) := by
  unfold cliF
  rw [if_neg (by decide), if_neg (by decide), if_neg (by decide), if_neg (by decide), if_neg (by decide), if_pos rfl]
  have h := vecS_1 v [] 1 4 h1 h2 (by omega)
  rw [List.append_nil] at h
  have h' : vecS (vecL 1 v) 0 1 1 4 = (v, [], 0) := h
  rw [h']
theorem cliF_41 (st : Cl) {l : List (List UInt8 × Int)} {b : List (List UInt8)} (h : ∀ t ∈ l, idB t = true) (hb : ∀ t ∈ b, t.length = 32) (he : l.length = b.length) (h1 : 1 ≤ l.length) (h4 : l.length ≤ 4) : cliF st 41 (vecL 2 (ridL l) ++ vecL 2 (rbdL b)) true = ({ st with ids := l, bnd := b }, [], 0) := by
  unfold cliF
  rw [if_neg (by decide), if_neg (by decide), if_neg (by decide), if_neg (by decide), if_neg (by decide), if_neg (by decide), if_pos rfl, if_pos rfl]
  have hl := ridL_le h
  have hl2 := rbdL_le hb
  have hr := read_flat iF ridE 2 (.inr rfl) l (fun a ha => iF_enc (h a ha)) (by unfold ridL at hl; simp only [Nat.reducePow]; omega) (vecL 2 (rbdL b))
  rw [show ((2 : Nat) : Int) = 2 from rfl] at hr
  have hr2 := read_flat bF (vecL 1) 2 (.inr rfl) b (fun a ha => bF_enc (hb a ha)) (by unfold rbdL at hl2; simp only [Nat.reducePow]; omega) []
  rw [List.append_nil, show ((2 : Nat) : Int) = 2 from rfl] at hr2
  have ho : offS (vecL 2 (ridL l) ++ vecL 2 (rbdL b)) 0 = ((l, b), [], 0) := by
    unfold offS
    have hr' : readS iF (vecL 2 (ridL l) ++ vecL 2 (rbdL b)) 0 2 = (l, vecL 2 (rbdL b), 0) := hr
    rw [hr']
    simp only
    have hr2' : readS bF (vecL 2 (rbdL b)) 0 2 = (b, [], 0) := hr2
    rw [hr2']
    simp only
    rw [if_pos he]
    congr 2
    unfold cntB
    rw [if_neg (by omega)]
  rw [ho]
theorem eC7_opt (s : Cl) : eC7 s = optE (0 < s.vers.length) 43 (vecL 1 (lstL s.vers)) ++ (optE (0 < s.grps.length) 10 (vecL 2 (lstL s.grps)) ++ (optE (0 < s.schs.length) 13 (vecL 2 (lstL s.schs)) ++ (optE (0 < s.shs.length) 51 (vecL 2 (rshL s.shs)) ++ (optE (0 < s.cook.length) 44 (vecL 2 s.cook) ++ (optE (0 < s.modes.length) 45 (vecL 1 s.modes) ++ optE (0 < s.ids.length) 41 (vecL 2 (ridL s.ids) ++ vecL 2 (rbdL s.bnd))))))) := by
  have h : ∀ (b : Prop) [Decidable b] (k : Int) (x y : List UInt8), (if b then x ++ rextL k y else x) = x ++ optE b k y := by
    intro b _ k x y
    unfold optE
    split <;> simp
  unfold eC7 eC6 eC5 eC4 eC3 eC2 eC1
  simp only [h]
  have h1 : (if 0 < s.vers.length then rextL 43 (vecL 1 (lstL s.vers)) else []) = optE (0 < s.vers.length) 43 (vecL 1 (lstL s.vers)) := rfl
  rw [h1]
  simp only [List.append_assoc]
end Go.Proofs.Ytegmimnhkohaoaa
/-
  Plain laws: a greeting of a client that was put is read again, also with an unknown extension behind its own; two of one kind can't be. No condition.
-/
namespace Go.Proofs.Ytegmimnhkohaoaa
open Go.RowKit Go.Kx
set_option linter.unusedVariables false
set_option linter.unusedSimpArgs false

theorem optE_last (b : Prop) [Decidable b] (kind : Int) (body : List UInt8) : optE b kind body = optE b kind body ++ [] := (List.append_nil _).symm
/-- The kinds that are read. -/
def kindsC : List Int := [41, 45, 44, 51, 13, 10, 43]
theorem exts_backC (s : Cl) (h : rokC s = true) (T : List UInt8) (hT : s.ids.length = 0 ∨ T = []) :
    ∃ had, (∀ k ∈ had, k ∈ kindsC) ∧ Reach ⟨s.R, s.ses, s.suites, [], [], [], [], [], [], [], []⟩ [] (eC7 s ++ T) s had T := by
  obtain ⟨o, hs, hz⟩ := rokC_of h
  obtain ⟨z1, z2⟩ := zip_all o.o11 hz
  have a4 := all16_len o.o4
  have a5 := all16_len o.o5
  have a6 := all16_len o.o6
  have o7 := o.o7
  have o8 := o.o8
  have o9 := o.o9
  have o10 := o.o10
  have o11 := o.o11
  have b7 := rshL_le hs
  have b9 := ridL_le z1
  have b10 := rbdL_le z2
  have hnil : ∀ {α : Type} (l : List α), ¬ 0 < l.length → l = [] := fun l hl => List.eq_nil_of_length_eq_zero (by omega)
  rw [eC7_opt]
  simp only [List.append_assoc]
  have r1 := reach_opt (0 < s.vers.length) 43 (vecL 1 (lstL s.vers)) ⟨s.R, s.ses, s.suites, [], [], [], [], [], [], [], []⟩ ⟨s.R, s.ses, s.suites, s.vers, [], [], [], [], [], [], []⟩ []
    (optE (0 < s.grps.length) 10 (vecL 2 (lstL s.grps)) ++ (optE (0 < s.schs.length) 13 (vecL 2 (lstL s.schs)) ++ (optE (0 < s.shs.length) 51 (vecL 2 (rshL s.shs)) ++ (optE (0 < s.cook.length) 44 (vecL 2 s.cook) ++ (optE (0 < s.modes.length) 45 (vecL 1 s.modes) ++ (optE (0 < s.ids.length) 41 (vecL 2 (ridL s.ids) ++ vecL 2 (rbdL s.bnd)) ++ T))))))
    (by decide) (by rw [vecL_len, lstL_len]; omega) (by simp) (fun hb => cliF_43 _ o.o4 hb _) (fun hb => by rw [hnil _ hb])
  have r2 := reach_opt (0 < s.grps.length) 10 (vecL 2 (lstL s.grps)) ⟨s.R, s.ses, s.suites, s.vers, [], [], [], [], [], [], []⟩ ⟨s.R, s.ses, s.suites, s.vers, s.grps, [], [], [], [], [], []⟩ (if 0 < s.vers.length then [43] else [])
    (optE (0 < s.schs.length) 13 (vecL 2 (lstL s.schs)) ++ (optE (0 < s.shs.length) 51 (vecL 2 (rshL s.shs)) ++ (optE (0 < s.cook.length) 44 (vecL 2 s.cook) ++ (optE (0 < s.modes.length) 45 (vecL 1 s.modes) ++ (optE (0 < s.ids.length) 41 (vecL 2 (ridL s.ids) ++ vecL 2 (rbdL s.bnd)) ++ T)))))
    (by decide) (by rw [vecL_len, lstL_len]; omega) (by split <;> simp) (fun hb => cliF_10 _ o.o5 hb _) (fun hb => by rw [hnil _ hb])
  obtain ⟨h1, hh1⟩ : ∃ x, x = (if 0 < s.vers.length then [(43 : Int)] else []) := ⟨_, rfl⟩
  have k1 : ∀ k ∈ h1, k ∈ [(43 : Int)] := by rw [hh1]; split <;> simp
  rw [← hh1] at r1 r2
  obtain ⟨h2, hh2⟩ : ∃ x, x = (if 0 < s.grps.length then (10 : Int) :: h1 else h1) := ⟨_, rfl⟩
  have k2 : ∀ k ∈ h2, k ∈ [(10 : Int), 43] := by
    rw [hh2]
    split
    · intro k hk
      rcases List.mem_cons.1 hk with rfl | hk
      · simp
      · have := k1 k hk; simp at this; simp [this]
    · intro k hk; have := k1 k hk; simp at this; simp [this]
  rw [← hh2] at r2
  have r3 := reach_opt (0 < s.schs.length) 13 (vecL 2 (lstL s.schs)) ⟨s.R, s.ses, s.suites, s.vers, s.grps, [], [], [], [], [], []⟩ ⟨s.R, s.ses, s.suites, s.vers, s.grps, s.schs, [], [], [], [], []⟩ h2
    (optE (0 < s.shs.length) 51 (vecL 2 (rshL s.shs)) ++ (optE (0 < s.cook.length) 44 (vecL 2 s.cook) ++ (optE (0 < s.modes.length) 45 (vecL 1 s.modes) ++ (optE (0 < s.ids.length) 41 (vecL 2 (ridL s.ids) ++ vecL 2 (rbdL s.bnd)) ++ T))))
    (by decide) (by rw [vecL_len, lstL_len]; omega) (fun hk => by have := k2 _ hk; simp at this) (fun hb => cliF_13 _ o.o6 hb _) (fun hb => by rw [hnil _ hb])
  obtain ⟨h3, hh3⟩ : ∃ x, x = (if 0 < s.schs.length then (13 : Int) :: h2 else h2) := ⟨_, rfl⟩
  have k3 : ∀ k ∈ h3, k ∈ [(13 : Int), 10, 43] := by
    rw [hh3]
    split
    · intro k hk
      rcases List.mem_cons.1 hk with rfl | hk
      · simp
      · have := k2 k hk; simp at this; rcases this with h | h <;> simp [h]
    · intro k hk; have := k2 k hk; simp at this; rcases this with h | h <;> simp [h]
  rw [← hh3] at r3
  have r4 := reach_opt (0 < s.shs.length) 51 (vecL 2 (rshL s.shs)) ⟨s.R, s.ses, s.suites, s.vers, s.grps, s.schs, [], [], [], [], []⟩ ⟨s.R, s.ses, s.suites, s.vers, s.grps, s.schs, s.shs, [], [], [], []⟩ h3
    (optE (0 < s.cook.length) 44 (vecL 2 s.cook) ++ (optE (0 < s.modes.length) 45 (vecL 1 s.modes) ++ (optE (0 < s.ids.length) 41 (vecL 2 (ridL s.ids) ++ vecL 2 (rbdL s.bnd)) ++ T)))
    (by decide) (by rw [vecL_len]; omega) (fun hk => by have := k3 _ hk; simp at this) (fun hb => cliF_51 _ hs hb o7 _) (fun hb => by rw [hnil _ hb])
  obtain ⟨h4, hh4⟩ : ∃ x, x = (if 0 < s.shs.length then (51 : Int) :: h3 else h3) := ⟨_, rfl⟩
  have k4 : ∀ k ∈ h4, k ∈ [(51 : Int), 13, 10, 43] := by
    rw [hh4]
    split
    · intro k hk
      rcases List.mem_cons.1 hk with rfl | hk
      · simp
      · have := k3 k hk; simp at this; rcases this with h | h | h <;> simp [h]
    · intro k hk; have := k3 k hk; simp at this; rcases this with h | h | h <;> simp [h]
  rw [← hh4] at r4
  have r5 := reach_opt (0 < s.cook.length) 44 (vecL 2 s.cook) ⟨s.R, s.ses, s.suites, s.vers, s.grps, s.schs, s.shs, [], [], [], []⟩ ⟨s.R, s.ses, s.suites, s.vers, s.grps, s.schs, s.shs, s.cook, [], [], []⟩ h4
    (optE (0 < s.modes.length) 45 (vecL 1 s.modes) ++ (optE (0 < s.ids.length) 41 (vecL 2 (ridL s.ids) ++ vecL 2 (rbdL s.bnd)) ++ T))
    (by decide) (by rw [vecL_len]; omega) (fun hk => by have := k4 _ hk; simp at this) (fun hb => cliF_44 _ _ _ hb o8) (fun hb => by rw [hnil _ hb])
  obtain ⟨h5, hh5⟩ : ∃ x, x = (if 0 < s.cook.length then (44 : Int) :: h4 else h4) := ⟨_, rfl⟩
  have k5 : ∀ k ∈ h5, k ∈ [(44 : Int), 51, 13, 10, 43] := by
    rw [hh5]
    split
    · intro k hk
      rcases List.mem_cons.1 hk with rfl | hk
      · simp
      · have := k4 k hk; simp at this; rcases this with h | h | h | h <;> simp [h]
    · intro k hk; have := k4 k hk; simp at this; rcases this with h | h | h | h <;> simp [h]
  rw [← hh5] at r5
  have r6 := reach_opt (0 < s.modes.length) 45 (vecL 1 s.modes) ⟨s.R, s.ses, s.suites, s.vers, s.grps, s.schs, s.shs, s.cook, [], [], []⟩ ⟨s.R, s.ses, s.suites, s.vers, s.grps, s.schs, s.shs, s.cook, s.modes, [], []⟩ h5
    (optE (0 < s.ids.length) 41 (vecL 2 (ridL s.ids) ++ vecL 2 (rbdL s.bnd)) ++ T)
    (by decide) (by rw [vecL_len]; omega) (fun hk => by have := k5 _ hk; simp at this) (fun hb => cliF_45 _ _ _ hb o9) (fun hb => by rw [hnil _ hb])
  obtain ⟨h6, hh6⟩ : ∃ x, x = (if 0 < s.modes.length then (45 : Int) :: h5 else h5) := ⟨_, rfl⟩
  have k6 : ∀ k ∈ h6, k ∈ [(45 : Int), 44, 51, 13, 10, 43] := by
    rw [hh6]
    split
    · intro k hk
      rcases List.mem_cons.1 hk with rfl | hk
      · simp
      · have := k5 k hk; simp at this; rcases this with h | h | h | h | h <;> simp [h]
    · intro k hk; have := k5 k hk; simp at this; rcases this with h | h | h | h | h <;> simp [h]
  rw [← hh6] at r6
  have r7 := reach_opt (0 < s.ids.length) 41 (vecL 2 (ridL s.ids) ++ vecL 2 (rbdL s.bnd)) ⟨s.R, s.ses, s.suites, s.vers, s.grps, s.schs, s.shs, s.cook, s.modes, [], []⟩ s h6 T
    (by decide) (by rw [List.length_append, vecL_len, vecL_len]; omega) (fun hk => by have := k6 _ hk; simp at this)
    (fun hb => by
      have hTn : T = [] := by rcases hT with h | h; omega; exact h
      subst hTn
      exact cliF_41 _ z1 z2 o11 hb o10)
    (fun hb => by rw [← hnil _ hb, ← hnil s.bnd (by omega)])
  refine ⟨if 0 < s.ids.length then 41 :: h6 else h6, ?_, ((((((r1.trans r2).trans r3).trans r4).trans r5).trans r6).trans r7)⟩
  intro k hk
  unfold kindsC
  split at hk
  · rcases List.mem_cons.1 hk with rfl | hk
    · simp
    · exact List.mem_cons_of_mem _ (k6 k hk)
  · exact List.mem_cons_of_mem _ (k6 k hk)
/-- A greeting with extensions E, whatever they are. -/
def greetL (s : Cl) (E : List UInt8) : List UInt8 := ((([3, 3] ++ s.R) ++ vecL 1 s.ses) ++ vecL 2 (lstL s.suites)) ++ [1, 0] ++ vecL 2 E
theorem rputCL_greet (s : Cl) : rputCL s = greetL s (eC7 s) := rfl
theorem getC_head (s : Cl) (hR : s.R.length = 32) (h : rokC s = true) (E : List UInt8) : getC (greetL s E) = gcX ⟨s.R, s.ses, s.suites, [], [], [], [], [], [], [], []⟩ (vecL 2 E) 0 := by
  obtain ⟨o, -, -⟩ := rokC_of h
  have e0 : greetL s E = u16L 771 ++ (s.R ++ (vecL 1 s.ses ++ (vecL 2 (lstL s.suites) ++ (vecL 1 [0] ++ vecL 2 E)))) := by
    unfold greetL
    simp only [List.append_assoc]
    rfl
  rw [e0]
  unfold getC
  rw [mustS_u16 (by decide)]
  unfold gcT
  obtain ⟨a1, a2, a3⟩ := S_app s.R (vecL 1 s.ses ++ (vecL 2 (lstL s.suites) ++ (vecL 1 [0] ++ vecL 2 E))) 32 (by rw [hR]; rfl)
  simp only [a1, a2, a3]
  have hg : rndG s.R = s.R := by
    unfold rndG
    rw [hR]
    simp
  rw [hg]
  unfold gcV
  have hv : vecS (vecL 1 s.ses ++ (vecL 2 (lstL s.suites) ++ (vecL 1 [0] ++ vecL 2 E))) 0 1 0 32 = (s.ses, vecL 2 (lstL s.suites) ++ (vecL 1 [0] ++ vecL 2 E), 0) := vecS_1 s.ses _ 0 32 (by omega) o.o1 (by omega)
  simp only [hv]
  unfold gcN
  have hn : numsS (vecL 2 (lstL s.suites) ++ (vecL 1 [0] ++ vecL 2 E)) 0 2 8 = (s.suites, vecL 1 [0] ++ vecL 2 E, 0) := nums_read o.o3 o.o2 (by omega) 2 (.inr rfl) _
  simp only [hn]
  unfold gcC
  have hc : vecS (vecL 1 [0] ++ vecL 2 E) 0 1 1 1 = ([0], vecL 2 E, 0) := vecS_1 [0] _ 1 1 (by decide) (by decide) (by omega)
  simp only [hc]
  rfl
theorem gcX_reach (st st' : Cl) (E : List UInt8) (hE : E.length ≤ 65535) (had : List Int) (T : List UInt8) (hr : Reach st [] E st' had T) : ∃ n, T.length < n ∧ gcX st (vecL 2 E) 0 = gcZ (extsL cliF n st' had T 0).1 [] (insB 0 (extsL cliF n st' had T 0).2) := by
  obtain ⟨n, h1, h2⟩ := hr (E.length + 1) (by omega)
  refine ⟨n, h1, ?_⟩
  unfold gcX
  have he : vecS (vecL 2 E) 0 2 0 65535 = (E, [], 0) := vecS_2' E 0 65535 (by omega) hE (by omega)
  simp only [he]
  rw [h2]
/-- What was put is read again. -/
theorem getC_back (s : Cl) (hR : s.R.length = 32) (h : rokC s = true) : getC (rputCL s) = (s, 0) := by
  rw [rputCL_greet, getC_head s hR h]
  obtain ⟨had, -, hr⟩ := exts_backC s h [] (.inr rfl)
  rw [List.append_nil] at hr
  obtain ⟨n, -, h2⟩ := gcX_reach _ _ _ (by have := (eC_le h).2.2.2.2.2.2; omega) _ _ hr
  rw [h2, extsL_stop _ _ _ _ _ _ (.inl rfl)]
  rfl
theorem skip_ext (st : Cl) (k : Int) (b : List UInt8) (last : Bool) (hk : k ∉ kindsC) : cliF st k b last = (st, [], 0) := by
  unfold kindsC at hk
  simp only [List.mem_cons, List.not_mem_nil, or_false, not_or] at hk
  unfold cliF
  rw [if_neg hk.2.2.2.2.2.2, if_neg hk.2.2.2.2.2.1, if_neg hk.2.2.2.2.1, if_neg hk.2.2.2.1, if_neg hk.2.2.1, if_neg hk.2.1, if_neg hk.1]
  have hb : badS b 0 (b.length : Int) = 0 := by
    unfold badS
    rw [if_neg (by omega), if_neg (by omega)]
  unfold skipS leftS
  rw [hb, if_pos rfl]
  simp
/-- An unknown extension behind the others is left out. -/
theorem getC_extra (s : Cl) (hR : s.R.length = 32) (h : rokC s = true) (hi : s.ids.length = 0) (k : Int) (b : List UInt8) (hk : in16 k = true) (hu : k ∉ kindsC) (hb : b.length ≤ 40) : getC (greetL s (eC7 s ++ rextL k b)) = (s, 0) := by
  rw [getC_head s hR h]
  obtain ⟨had, hh, hr⟩ := exts_backC s h (rextL k b) (.inl hi)
  obtain ⟨n, hn, h2⟩ := gcX_reach _ _ _ (by have := (eC_le h).2.2.2.2.2.2; rw [List.length_append, rextL_len]; omega) _ _ hr
  rw [h2, extsL_ext' cliF n (by omega) s s had k hk b (by omega) (fun e => hu (hh k e)) (skip_ext s k b true hu)]
  rfl
/-- Two of one kind can't be. -/
theorem getC_twice (s : Cl) (hR : s.R.length = 32) (h : rokC s = true) (hi : s.ids.length = 0) (k : Int) (b : List UInt8) (hk : in16 k = true) (hu : k ∉ kindsC) (hb : b.length ≤ 40) : (getC (greetL s (eC7 s ++ rextL k b ++ rextL k b))).2 = 3 := by
  rw [getC_head s hR h]
  obtain ⟨had, hh, hr⟩ := exts_backC s h (rextL k b ++ rextL k b) (.inl hi)
  rw [← List.append_assoc] at hr
  obtain ⟨n, hn, h2⟩ := gcX_reach _ _ _ (by have := (eC_le h).2.2.2.2.2.2; rw [List.length_append, List.length_append, rextL_len]; omega) _ _ hr
  rw [List.length_append, rextL_len] at hn
  rw [h2, extsL_ext cliF n (by omega) s s had k hk b (rextL k b) (by omega) (fun e => hu (hh k e)) (skip_ext s k b _ hu)]
  obtain ⟨m, hm⟩ : ∃ m, n - 1 = m + 1 := ⟨n - 2, by omega⟩
  rw [hm]
  have hne : rextL k b ≠ [] := by intro e; have := congrArg List.length e; rw [rextL_len] at this; simp at this
  rw [extsL_go cliF m s (k :: had) _ hne]
  have hhd : (headS (k :: had) (rextL k b)).2.2.2 = 3 := by
    have h1 := headS_ext [] k hk b [] (by omega) (by simp)
    rw [List.append_nil] at h1
    unfold headS at h1 ⊢
    simp only [Prod.mk.injEq] at h1 ⊢
    obtain ⟨e1, e2, e3, e4⟩ := h1
    simp only [List.not_mem_nil, if_false] at e4
    simp only [e1, List.mem_cons, true_or, if_true, e4]
    rfl
  have hbad : insB (headS (k :: had) (rextL k b)).2.2.2 (cliF s (headS (k :: had) (rextL k b)).1 (headS (k :: had) (rextL k b)).2.1 (decide ((headS (k :: had) (rextL k b)).2.2.1 = []))).2 = 3 := by
    rw [hhd]
    unfold insB rm
    split
    · rfl
    · rfl
  simp only [hbad]
  rw [extsL_stop _ _ _ _ _ _ (.inr (by decide))]
  rfl
end Go.Proofs.Ytegmimnhkohaoaa
/-
  Loads of structs and of arrays of 32 bytes out of blocks that are known whole, as rules of the walk. No condition.
-/
namespace Go.Proofs.Ytegmimnhkohaoaa
open Go.RowKit Go.Kx
set_option linter.unusedVariables false
set_option linter.unusedSimpArgs false

noncomputable def hidLoad (t : TypeId) (v : Value) (w : World) : Result Next := (do let x ← Instr.loadAt t v; pure (Next.value x) : Sem Next).run Try.prog w
noncomputable def stLoad (n : Nat) (t : TypeId) (v : Value) (w : World) : Result Next :=
  match v with
  | .pointer (some ⟨r, 0, none⟩) => (match w.heap[r]? with
    | some (.cells C _ _) => if C.size = n then .ok (.value (.agg C)) w else hidLoad t v w
    | _ => hidLoad t v w)
  | _ => hidLoad t v w
/-- The first 32 cells of a block. -/
def first32 (C : Array Value) : Array Value := (C.toList.take 32).toArray
noncomputable def ptLoad (t : TypeId) (v : Value) (w : World) : Result Next :=
  match v with
  | .pointer (some ⟨r, 0, none⟩) => (match w.heap[r]? with
    | some (.cells C _ _) => if 32 ≤ C.size then .ok (.value (.agg (first32 C))) w else hidLoad t v w
    | _ => hidLoad t v w)
  | _ => hidLoad t v w
theorem blk_range {w : World} {r : Nat} {C : Array Value} {t : TypeId} {fr : Nat × Nat} (hb : w.heap[r]? = some (.cells C t fr)) : w.rangeAt r 0 C.toList := by
  intro j v hv
  rw [cell_of_row w r (0 + j) C t fr hb, Nat.zero_add]
  simpa using hv
theorem blk_range32 {w : World} {r : Nat} {C : Array Value} {t : TypeId} {fr : Nat × Nat} (hb : w.heap[r]? = some (.cells C t fr)) : w.rangeAt r 0 (C.toList.take 32) := by
  intro j v hv
  refine blk_range hb j v ?_
  rw [List.getElem?_take] at hv
  split at hv
  · exact hv
  · cases hv
theorem stLoad_eq (n : Nat) (t : TypeId) (d : TypeDesc) (hu : Try.prog.underlying t = some d) (hd : d.isRow = true) (hi : (Try.prog.info? t).map (·.size) = some n) (dst : Option Tmp) (x : Operand) (ty : TypeId) (pos : String) (after : Array Edge) (gd : Option (Nat × Bool)) (ρ : Operand → Value) (w : World) :
    (execOp ρ ⟨dst, .load t x, ty, pos, after, gd⟩).run Try.prog w = stLoad n t (ρ x) w := by
  have h0 : (execOp ρ ⟨dst, .load t x, ty, pos, after, gd⟩).run Try.prog w = hidLoad t (ρ x) w := rfl
  rw [h0]
  generalize ρ x = v
  unfold stLoad
  split
  · rename_i r
    split
    · rename_i C t' fr hb
      split
      · rename_i hs
        have h1 := run_loadAt_mid (P := Try.prog) w r 0 t C.toList d (blk_range hb) hu hd (by rw [Array.length_toList, hs]; exact hi)
        unfold hidLoad
        rw [Sem.run_bind, h1, Array.toArray_toList]
        rfl
      · rfl
    · rfl
  · rfl
theorem ptLoad_eq (t : TypeId) (d : TypeDesc) (hu : Try.prog.underlying t = some d) (hd : d.isRow = true) (hi : (Try.prog.info? t).map (·.size) = some 32) (dst : Option Tmp) (x : Operand) (ty : TypeId) (pos : String) (after : Array Edge) (gd : Option (Nat × Bool)) (ρ : Operand → Value) (w : World) :
    (execOp ρ ⟨dst, .load t x, ty, pos, after, gd⟩).run Try.prog w = ptLoad t (ρ x) w := by
  have h0 : (execOp ρ ⟨dst, .load t x, ty, pos, after, gd⟩).run Try.prog w = hidLoad t (ρ x) w := rfl
  rw [h0]
  generalize ρ x = v
  unfold ptLoad
  split
  · rename_i r
    split
    · rename_i C t' fr hb
      split
      · rename_i hs
        have h1 := run_loadAt_mid (P := Try.prog) w r 0 t (C.toList.take 32) d (blk_range32 hb) hu hd (by rw [List.length_take, Array.length_toList, Nat.min_eq_left hs]; exact hi)
        unfold hidLoad first32
        rw [Sem.run_bind, h1]
        rfl
      · rfl
    · rfl
  · rfl
theorem exec_ld32 (dst : Option Tmp) (x : Operand) (ty : TypeId) (pos : String) (after : Array Edge) (gd : Option (Nat × Bool)) (ρ : Operand → Value) (w : World) :
    (execOp ρ ⟨dst, .load 22 x, ty, pos, after, gd⟩).run Try.prog w = ptLoad 22 (ρ x) w := ptLoad_eq _ _ Try.underlying22 rfl Try.infoB32 _ _ _ _ _ _ _ _
theorem exec_ldSv (dst : Option Tmp) (x : Operand) (ty : TypeId) (pos : String) (after : Array Edge) (gd : Option (Nat × Bool)) (ρ : Operand → Value) (w : World) :
    (execOp ρ ⟨dst, .load 33 x, ty, pos, after, gd⟩).run Try.prog w = stLoad 40 33 (ρ x) w := stLoad_eq _ _ _ Try.underlying33 rfl Try.infoSv _ _ _ _ _ _ _ _
theorem exec_ldRv (dst : Option Tmp) (x : Operand) (ty : TypeId) (pos : String) (after : Array Edge) (gd : Option (Nat × Bool)) (ρ : Operand → Value) (w : World) :
    (execOp ρ ⟨dst, .load 27 x, ty, pos, after, gd⟩).run Try.prog w = stLoad 40 27 (ρ x) w := stLoad_eq _ _ _ Try.underlying27 rfl Try.infoRv _ _ _ _ _ _ _ _
theorem stLoad_at (n : Nat) (t : TypeId) (r : Nat) (w : World) : stLoad n t (.pointer (some ⟨r, 0, none⟩)) w = (match w.heap[r]? with
    | some (.cells C _ _) => if C.size = n then .ok (.value (.agg C)) w else hidLoad t (.pointer (some ⟨r, 0, none⟩)) w
    | _ => hidLoad t (.pointer (some ⟨r, 0, none⟩)) w) := rfl
theorem ptLoad_at (t : TypeId) (r : Nat) (w : World) : ptLoad t (.pointer (some ⟨r, 0, none⟩)) w = (match w.heap[r]? with
    | some (.cells C _ _) => if 32 ≤ C.size then .ok (.value (.agg (first32 C))) w else hidLoad t (.pointer (some ⟨r, 0, none⟩)) w
    | _ => hidLoad t (.pointer (some ⟨r, 0, none⟩)) w) := rfl
/-- The same as rules for execOp itself, whichever way the operation is written. -/
noncomputable def ldSem (t : TypeId) (v : Value) : Sem Next := do let x ← Instr.loadAt t v; pure (Next.value x)
theorem op_ld32 (dst : Option Tmp) (x : Operand) (ty : TypeId) (pos : String) (after : Array Edge) (gd : Option (Nat × Bool)) (ρ : Operand → Value) : execOp ρ ⟨dst, .load 22 x, ty, pos, after, gd⟩ = ldSem 22 (ρ x) := rfl
theorem op_ldSv (dst : Option Tmp) (x : Operand) (ty : TypeId) (pos : String) (after : Array Edge) (gd : Option (Nat × Bool)) (ρ : Operand → Value) : execOp ρ ⟨dst, .load 33 x, ty, pos, after, gd⟩ = ldSem 33 (ρ x) := rfl
theorem op_ldRv (dst : Option Tmp) (x : Operand) (ty : TypeId) (pos : String) (after : Array Edge) (gd : Option (Nat × Bool)) (ρ : Operand → Value) : execOp ρ ⟨dst, .load 27 x, ty, pos, after, gd⟩ = ldSem 27 (ρ x) := rfl
theorem run_ld32 (v : Value) (w : World) : (ldSem 22 v).run Try.prog w = ptLoad 22 v w := (exec_ld32 none (.const v) 0 "" #[] none (fun _ => v) w)
theorem run_ldSv (v : Value) (w : World) : (ldSem 33 v).run Try.prog w = stLoad 40 33 v w := (exec_ldSv none (.const v) 0 "" #[] none (fun _ => v) w)
theorem run_ldRv (v : Value) (w : World) : (ldSem 27 v).run Try.prog w = stLoad 40 27 v w := (exec_ldRv none (.const v) 0 "" #[] none (fun _ => v) w)
theorem svV_sz (s : Sv) (z : S3) (h : s.R.length = 32) : (svV s z).size = 40 := by simp [svV, svC, h]
theorem svV_first (s : Sv) (z : S3) (h : s.R.length = 32) : first32 (svV s z) = (s.R.map B8).toArray := by
  unfold first32 svV svC
  rw [List.toList_toArray, List.take_append_of_le_length (by simp [h]), List.take_of_length_le (by simp [h])]
end Go.Proofs.Ytegmimnhkohaoaa
