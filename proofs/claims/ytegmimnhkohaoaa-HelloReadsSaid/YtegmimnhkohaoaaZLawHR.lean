/-
  The walk of HelloRaw: it returns true, and changes nothing that lay there. Condition: the bytes are a slice's, whose address leads to a whole block.
-/
import Derived.Test.YtegmimnhkohaoaaZRawP
import Derived.Test.YtegmimnhkohaoaaZRfK
import Derived.Test.YtegmimnhkohaoaaZHelMF
import Derived.Test.YtegmimnhkohaoaaZHelZ
namespace Go.Proofs.Ytegmimnhkohaoaa
open Go.RowKit Go.Kx
set_option linter.unusedVariables false
set_option linter.unusedSimpArgs false
theorem exec_ldCl (dst : Option Tmp) (x : Operand) (ty : TypeId) (pos : String) (after : Array Edge) (gd : Option (Nat × Bool)) (ρ : Operand → Value) (w : World) :
    (execOp ρ ⟨dst, .load 56 x, ty, pos, after, gd⟩).run Try.prog w = stLoad 42 56 (ρ x) w := stLoad_eq _ _ _ Try.underlying56 rfl Try.infoCl _ _ _ _ _ _ _ _
theorem exec_ldRc (dst : Option Tmp) (x : Operand) (ty : TypeId) (pos : String) (after : Array Edge) (gd : Option (Nat × Bool)) (ρ : Operand → Value) (w : World) :
    (execOp ρ ⟨dst, .load 48 x, ty, pos, after, gd⟩).run Try.prog w = stLoad 42 48 (ρ x) w := stLoad_eq _ _ _ Try.underlying48 rfl Try.infoRc _ _ _ _ _ _ _ _
attribute [local go_sem ↓] exec_ldSv exec_ldRv exec_ldCl exec_ldRc
attribute [local go_sem] stLoad_at

/-- A Client's, a Server's block. -/
def ClX (w : World) (q t : Nat) (x : Cl) (z : Z10) : Prop := Blk w q t (clV x z) ∧ IsCl w (· < w.heap.size) x z
def SvX (w : World) (q t : Nat) (s : Sv) (z : S3) : Prop := Blk w q t (svV s z) ∧ IsSv w w.heap.size s z
theorem IsSv.mono {w : World} {M N : Nat} {s : Sv} {z : S3} (h : IsSv w M s z) (hN : M ≤ N) : IsSv w N s z := by
  exact ⟨h.len, ⟨h.s1.1, h.s1.2.1.mono (fun k _ hk => by omega), h.s1.2.2⟩, ⟨h.s2.1, h.s2.2.1.mono (fun k _ hk => by omega), h.s2.2.2⟩, ⟨h.s3.1, h.s3.2.1.mono (fun k _ hk => by omega), h.s3.2.2⟩⟩
theorem fresh_below {w1 w2 : World} {t : Nat} {C : Array Value} (ho : Only (· = w1.heap.size) (w1.alloc (.cells C t)) w2) : Below w1.heap.size w1 w2 :=
  below_only ((Below.refl _ _).alloc (Nat.le_refl _) _) (by rw [World.size_alloc]; omega) ho (fun k hk e => by omega)
theorem ClX.fresh {w1 w2 : World} {M q t : Nat} {x : Cl} {z : Z10} (hq : w1.heap.size = q) (hi : IsCl w1 (fun k => M ≤ k) x z) (hb : Blk w2 w1.heap.size t (clV x z)) (hB : Below w1.heap.size w1 w2) : ClX w2 q t x z := by
  subst hq
  exact ⟨hb, ((hi.mono (T := fun k => k < w1.heap.size) (fun k h _ => h)).below hB).mono (fun k _ hk => Nat.lt_of_lt_of_le hk hB.size)⟩
theorem SvX.fresh {w1 w2 : World} {M q t : Nat} {x : Sv} {z : S3} (hq : w1.heap.size = q) (hi : SvN w1 (fun k => M ≤ k) x z) (hb : Blk w2 w1.heap.size t (svV x z)) (hB : Below w1.heap.size w1 w2) : SvX w2 q t x z := by
  subst hq
  exact ⟨hb, (hi.is.below hB).mono hB.size⟩
theorem ClX.below {w w' : World} {q t : Nat} {x : Cl} {z : Z10} (h : ClX w q t x z) (hb : Below w.heap.size w w') : ClX w' q t x z :=
  ⟨h.1.below hb, (h.2.below hb).mono (fun k _ hk => Nat.lt_of_lt_of_le hk hb.size)⟩
theorem SvX.below {w w' : World} {q t : Nat} {x : Sv} {z : S3} (h : SvX w q t x z) (hb : Below w.heap.size w w') : SvX w' q t x z :=
  ⟨h.1.below hb, (h.2.below hb).mono hb.size⟩
/-- What stands ahead of the comparisons. -/
structure HRJ (w : World) (x : Cl) (s : Sv) (z1 z2 : Z10) (z3 z4 : S3) (q1 q2 q3 q4 : Nat) (wx : World) : Prop where
  b1 : ClX wx q1 56 x z1
  b2 : ClX wx q2 48 x z2
  b3 : SvX wx q3 33 s z3
  b4 : SvX wx q4 27 s z4
  bel : Below w.heap.size w wx
theorem HRJ.below {w wx wy : World} {x : Cl} {s : Sv} {z1 z2 : Z10} {z3 z4 : S3} {q1 q2 q3 q4 : Nat} (h : HRJ w x s z1 z2 z3 z4 q1 q2 q3 q4 wx) (hb : Below wx.heap.size wx wy) : HRJ w x s z1 z2 z3 z4 q1 q2 q3 q4 wy :=
  ⟨h.b1.below hb, h.b2.below hb, h.b3.below hb, h.b4.below hb, h.bel.trans (hb.mono h.bel.size)⟩

set_option maxHeartbeats 20000000 in
set_option maxRecDepth 100000 in
theorem helloRaw_c (p : Option Addr) (n c : Nat) (b : List UInt8) (w : World) (hR : Rd w (· < w.heap.size) p b) (hp : p = none → c = 0) (hp2 : ∀ x, p = some x → x.spot = none ∧ x.block < w.heap.size) (h1 : n ≤ c) (h2 : c ≤ maxLen) (hn : b.length = n) :
    Calls Try.prog 5 #[.slice p n c] w (BoolR w true) := by
  have hz1 := run_zeroCl
  have hz2 := run_zeroRc
  have hz3 := run_zeroSv
  have hz4 := run_zeroRv
  go_enter Try.func5, Try.ntmps5
  go_upto_region 2 with (fail)
  have hk : ∃ k, (if (200 : Int) < (n : Int) then (200 : Int) else (n : Int)).toNat = k ∧ k ≤ n ∧ k ≤ 200 := ⟨_, rfl, by split <;> omega, by split <;> omega⟩
  obtain ⟨k, hk0, hk1, hk2⟩ := hk
  rw [hk0]
  generalize (if (200 : Int) < (n : Int) then (200 : Int) else (n : Int)) = m at *
  have hR' : Rd w (· < w.heap.size) p (b.take k) := by
    intro i hi
    have hi2 : i < b.length := by rw [List.length_take] at hi; omega
    have := hR i hi2
    rw [List.getElem_take]
    exact this
  have hl' : (b.take k).length = k := by rw [List.length_take]; omega
  obtain ⟨a, ha⟩ : ∃ a, a = b.take k := ⟨_, rfl⟩
  rw [← ha] at hR' hl'
  have hkc : k ≤ c := by omega
  clear ha hR hk0 hk1 hn h1
  have HR := Lib.hid hR'
  have HP := Lib.hid (And.intro hl' (And.intro hp hp2))
  clear hR' hl' hp hp2
  have hfew := getC_few a
  have hce : rgetC a = getC a := (getC_eq a).symm
  have hse : rgetS a = getS a := (getS_eq a).symm
  obtain ⟨y, hy⟩ : ∃ y, y = getC a := ⟨_, rfl⟩
  obtain ⟨v, hv⟩ : ∃ v, v = getS a := ⟨_, rfl⟩
  rw [← hy] at hfew hce
  rw [← hv] at hse
  obtain ⟨x, e⟩ := y
  obtain ⟨s, f⟩ := v
  have HE := Lib.hid (And.intro hce (And.intro hse (And.intro hy.symm hv.symm)))
  have HF := Lib.hid hfew
  clear hce hse hy hv hfew
  go_upto_region 6 with (first
    | (go_at_call 18; refine (getClient_c _ p k c a _ HR.out HP.out.2.1 (by have := HP.out.1; omega) HP.out.1).mono ?_; rw [HE.out.2.2.1]; rintro en w1 ⟨z1, rfl, hi, hb⟩; have I1 := Lib.hid (And.intro hi hb); clear hi hb)
    | (refine st_blk rfl 56 (.tmp 3) (.tmp 19) rfl w1.heap.size (clV x z1) rfl rfl 56 (clV clZ z10) (Blk.new w1 _ _) (by rw [clV_size _ _ I1.out.1.len]; exact Try.infoCl) (by rw [clV_size _ _ rfl, clV_size _ _ I1.out.1.len]) (clV_ones _ _) ?_; intro w2 hb2 ho2; have B2 := fresh_below ho2; have I2 := Lib.hid (And.intro (I1.out.2.trans (B2.mono I1.out.2.size)) (ClX.fresh rfl I1.out.1 hb2 B2)); clear hb2 ho2 B2)
    | (go_at_call 19; refine (rgetClient_c _ p k c a _ (HR.out.only (Only.of_below (r := fun _ => False) I2.out.1) (fun _ _ h => h)) HP.out.2.1 (fun x hx => ⟨(HP.out.2.2 x hx).1, by have h1 := (HP.out.2.2 x hx).2; have h3 := (I2.out.1).size; omega⟩) hkc h2 (by have := HP.out.1; omega) HP.out.1).mono ?_; rw [HE.out.1]; rintro en w3 ⟨z2, rfl, hi, hb⟩; have I3 := Lib.hid (And.intro hi hb); clear hi hb)
    | (refine st_blk rfl 48 (.tmp 5) (.tmp 24) rfl w3.heap.size (clV x z2) rfl rfl 48 (clV clZ z10) (Blk.new w3 _ _) (by rw [clV_size _ _ I3.out.1.len]; exact Try.infoRc) (by rw [clV_size _ _ rfl, clV_size _ _ I3.out.1.len]) (clV_ones _ _) ?_; intro w4 hb4 ho4; have B4 := fresh_below ho4; have C4 := I3.out.2.trans (B4.mono I3.out.2.size); have I4 := Lib.hid (And.intro (I2.out.1.trans (C4.mono I2.out.1.size)) (And.intro (I2.out.2.below C4) (ClX.fresh rfl I3.out.1 hb4 B4))); clear hb4 ho4 B4 C4)
    | (go_at_call 13; refine (getServer_c _ p k c a _ (HR.out.only (Only.of_below (r := fun _ => False) I4.out.1) (fun _ _ h => h)) HP.out.2.1 (by have := HP.out.1; omega) HP.out.1).mono ?_; rw [HE.out.2.2.2]; rintro en w5 ⟨z3, rfl, hi, hb⟩; have I5 := Lib.hid (And.intro hi hb); clear hi hb)
    | (refine st_blk rfl 33 (.tmp 7) (.tmp 29) rfl w5.heap.size (svV s z3) rfl rfl 33 (svV svZ z0) (Blk.new w5 _ _) (by rw [svV_size' _ _ I5.out.1.len]; exact Try.infoSv) (by rw [svV_size' _ _ rfl, svV_size' _ _ I5.out.1.len]) (svV_ones _ _) ?_; intro w6 hb6 ho6; have B6 := fresh_below ho6; have C6 := I5.out.2.trans (B6.mono I5.out.2.size); have I6 := Lib.hid (And.intro (I4.out.1.trans (C6.mono I4.out.1.size)) (And.intro (I4.out.2.1.below C6) (And.intro (I4.out.2.2.below C6) (SvX.fresh rfl I5.out.1 hb6 B6)))); clear hb6 ho6 B6 C6)
    | (go_at_call 20; refine (rgetServer_c _ p k c a _ (HR.out.only (Only.of_below (r := fun _ => False) I6.out.1) (fun _ _ h => h)) HP.out.2.1 (fun x hx => ⟨(HP.out.2.2 x hx).1, by have h1 := (HP.out.2.2 x hx).2; have h3 := (I6.out.1).size; omega⟩) hkc h2 (by have := HP.out.1; omega) HP.out.1).mono ?_; rw [HE.out.2.1]; rintro en w7 ⟨z4, rfl, hi, hb⟩; have I7 := Lib.hid (And.intro hi hb); clear hi hb)
    | (refine st_blk rfl 27 (.tmp 9) (.tmp 34) rfl w7.heap.size (svV s z4) rfl rfl 27 (svV svZ z0) (Blk.new w7 _ _) (by rw [svV_size' _ _ I7.out.1.len]; exact Try.infoRv) (by rw [svV_size' _ _ rfl, svV_size' _ _ I7.out.1.len]) (svV_ones _ _) ?_; intro w8 hb8 ho8; have B8' := fresh_below ho8; have C8 := I7.out.2.trans (B8'.mono I7.out.2.size); have J0 := Lib.hid (show HRJ w x s z1 z2 z3 z4 w1.heap.size w3.heap.size w5.heap.size w7.heap.size w8 from ⟨I6.out.2.1.below C8, I6.out.2.2.1.below C8, I6.out.2.2.2.below C8, SvX.fresh rfl I7.out.1 hb8 B8', I6.out.1.trans (C8.mono I6.out.1.size)⟩); clear hb8 ho8 B8' C8))
  clear I1 I2 I3 I4 I5 I6 I7 HR HP hz1 hz2 hz3 hz4
  generalize w1.heap.size = q1 at *
  generalize w3.heap.size = q2 at *
  generalize w5.heap.size = q3 at *
  generalize w7.heap.size = q4 at *
  have hfew := HF.out
  clear HF HE
  have hJ := J0.out.below ((Below.refl _ _).drew)
  have hs1 : (clV x z1).size = 42 := clV_size _ _ hJ.b1.2.len
  have hs2 : (clV x z2).size = 42 := clV_size _ _ hJ.b1.2.len
  have hs3 : (svV s z3).size = 40 := svV_sz _ _ hJ.b3.2.len
  have hs4 : (svV s z4).size = 40 := svV_sz _ _ hJ.b3.2.len
  go_region_held3 (fun w' => (w'.heap[q1]? = some (.cells (clV x z1) 56 (0, 0)) ∧ w'.heap[q2]? = some (.cells (clV x z2) 48 (0, 0))) ∧ (w'.heap[q3]? = some (.cells (svV s z3) 33 (0, 0)) ∧ w'.heap[q4]? = some (.cells (svV s z4) 27 (0, 0)))) (first | exact ⟨⟨hJ.b1.1, hJ.b2.1⟩, ⟨hJ.b3.1, hJ.b4.1⟩⟩ | exact ⟨⟨J0.out.b1.1, J0.out.b2.1⟩, ⟨J0.out.b3.1, J0.out.b4.1⟩⟩) (first
    | (go_at_call 14; refine (sameServer_c s z3 z4 _ _ _ hJ.b3.2 hJ.b4.2).mono ?_; rintro en w13 ⟨rfl, hb⟩; have hJ2 := hJ.below hb; clear hJ; have hJ := hJ2; clear hJ2 hb)
    | (go_at_call 15; refine (from_c s z3 _ _ _ hJ.b3.2).mono ?_; rintro en w12 ⟨rfl, hb⟩; have hJ2 := hJ.below hb; clear hJ; have hJ := hJ2; clear hJ2 hb)
    | (go_at_call 21; refine (sameClient_c x _ z2 _ hF.out hJ.b2.2 hfew.1).mono ?_; rintro en w11 ⟨rfl, hb⟩; have hJ2 := hJ.below hb; clear hJ; have hJ := hJ2; clear hJ2 hb hF)
    | (go_at_call 22; refine (from_cl x z1 _ _ hJ.b1.2 (Nat.le_refl _) (by have := hJ.b1.2.s6.1; have := hfew.2.2; omega) (by have := hJ.b1.2.s9.1; have := hfew.2.1; omega)).mono ?_; rintro en w10 ⟨p6, c6, p9, c9, rfl, hi, hb⟩; have hF := Lib.hid hi; have hJ2 := hJ.below hb; clear hJ; have hJ := hJ2; clear hJ2 hb hi)
    | (go_at_call 12; refine (greets_c _).mono ?_; rintro en w9 ⟨rfl, hb⟩; have hJ2 := hJ.below hb; clear hJ; have hJ := hJ2; clear hJ2 hb))
  all_goals go_wp2
  all_goals go_ret
  all_goals exact ⟨rfl, hJ.bel⟩
end Go.Proofs.Ytegmimnhkohaoaa
