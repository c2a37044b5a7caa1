/-
  The contracts of aead's padded and counted. Conditions: a row of the call's own to begin with, and no more bytes than a million.
-/
import Derived.Test.YtolgaapiedbkfaaGreatZPolD
import Derived.Test.YtolgaapiedbkfaaGreatZChaD
import Derived.Deep.MidRow
import Derived.Test.YtolgaapiedbkfaaGreatZg4
import Derived.Laws.CopyOwn
import Derived.Deep.OwnRows
namespace Go.Kx
open Go.Proofs.YtolgaapiedbkfaaGreat
def padN (n : Nat) : Nat := (16 - n % 16) % 16
def padTo (l : List UInt8) : List UInt8 := l ++ List.replicate (padN l.length) 0
theorem padN_lt (n : Nat) : padN n < 16 := by unfold padN; omega
theorem padTo_len (l : List UInt8) : (padTo l).length = l.length + padN l.length := by simp [padTo]
theorem padTo_16 (l : List UInt8) : (padTo l).length % 16 = 0 := by rw [padTo_len]; unfold padN; omega
def leK (x : UInt64) : Nat → List UInt8
  | 0 => []
  | i + 1 => leK x i ++ [cut8 (shr64 x (8 * i))]
theorem leK_len (x : UInt64) : ∀ i, (leK x i).length = i
  | 0 => rfl
  | i + 1 => by rw [leK, List.length_append, leK_len x i]; rfl
def leF (n : Nat) : List UInt8 := leK (UInt64.ofNat n) 8
end Go.Kx
namespace Go.Proofs.YtolgaapiedbkfaaGreat
open Go.RowKit Go.Kx
set_option linter.unusedVariables false
set_option linter.unusedSimpArgs false
set_option maxRecDepth 100000
attribute [local go_sem ↓] D_add D_mul D_xor D_or D_and D_not D_sub D_lss D_eql D_neq
attribute [local go_sem ↓] D_guard1 D_guard2
attribute [local go_sem ↓] exec_stD
attribute [local go_sem] D_cells D_one D_store st1_D st1_i
attribute [local go_sem ↓] D_shl D_shr
/-- A row that grew, of blocks from a number on. -/
def GrowOB (B : Nat) (w : World) (l : List UInt8) (e : Ending) (w' : World) : Prop := ∃ p n c, e = .returned (.slice p n c) ∧ OB w' p n c l ∧ (∀ k, owB p n c k → B ≤ k) ∧ Below B w w'
def PadRel (B : Nat) (w : World) (l : List UInt8) (v : Value) (wr : World) : Prop := ∃ p n c i, v = .slice p n c ∧ i ≤ padN l.length ∧ OB wr p n c (l ++ List.replicate i 0) ∧ (∀ k, owB p n c k → B ≤ k) ∧ Below B w wr
theorem below_lift {B : Nat} {w w' w'' : World} {q : Nat → Prop} (h : Below B w w') (ho : Only q w' w'') (hB : B ≤ w'.heap.size) (hq : ∀ k, q k → B ≤ k) : Below B w w'' :=
  below_only h hB ho (fun k hk e => by have := hq k e; omega)
theorem aPadded_c (B : Nat) (p : Option Addr) (n c : Nat) (l : List UInt8) (T : Nat → Prop) (q : Option Addr) (m k : Nat) (b : List UInt8) (w : World) (h : OB w p n c l) (hx : ∀ k, owB p n c k → B ≤ k) (hB : B ≤ w.heap.size)
    (hR : Rd w T q b) (hq : q = none → k = 0) (hm : b.length = m) (hl : l.length + b.length ≤ 1000000) :
    Calls Tryz.prog 145 #[.slice p n c, .slice q m k] w (GrowOB B w (padTo (l ++ b))) := by
  have H := Lib.hid (And.intro h (And.intro hx (And.intro hB (And.intro hR (And.intro hq hm)))))
  clear h hx hB hR hq hm
  have H2 := Lib.hid hl
  clear hl
  go_enter Tryz.func145, Tryz.ntmps145
  go_upto_region 2 with (at_builtin; refine wpList_app8 rfl _ _ rfl H.out.1 rfl T q m k b rfl H.out.2.2.2.2.2 H.out.2.2.2.1 H.out.2.2.2.2.1 (by have := H2.out; omega) ?_; intro p1 n1 c1 w1 h1 h2 h3)
  have hB1 : ∀ k, owB p1 n1 c1 k → B ≤ k := fun k hk => (by rcases h2 k hk with h | h; (· exact H.out.2.1 k h); (· have := H.out.2.2.1; omega))
  have hb1 : Below B w w1 := below_lift (Below.refl B w) h3 H.out.2.2.1 H.out.2.1
  obtain ⟨L, hL⟩ : ∃ L, L = l ++ b := ⟨_, rfl⟩
  rw [← hL] at h1
  have HL := Lib.hid hL
  have hLl : L.length ≤ 1000000 := by rw [hL, List.length_append]; exact H2.out
  have h0 : PadRel B w L (.slice p1 n1 c1) w1 := ⟨p1, n1, c1, 0, rfl, by omega, by simpa using h1, hB1, hb1⟩
  have H0 := Lib.hid h0
  clear h0 hL h1 h2 h3 hB1 hb1
  go_loopw [0] (fun v wr => PadRel B w L v wr) (fun v _ => padN (lenOf v))
  case atStart => exact H0.out
  case round =>
    obtain ⟨p2, n2, c2, i, rfl, hi, ho, hBx, hb⟩ := hrel
    have hn2 : n2 = L.length + i := by have := ho.len; simp at this; omega
    have HB : B ≤ wr.heap.size := by have := hb.size; have := H.out.2.2.1; omega
    by_cases hz : i = padN L.length
    · have k1 : ((n2 : Nat) : Int) % 16 = 0 := by rw [hz] at hn2; unfold padN at hn2; omega
      have k2 : ((n2 : Nat) : Int).tmod 16 = 0 := by rw [Int.tmod_eq_emod_of_nonneg (by omega)]; exact k1
      have HO := Lib.hid (And.intro ho (And.intro hBx hb))
      clear ho hBx hb
      go_wp2
      go_ret
      exact ⟨p2, n2, c2, rfl, by rw [hz, HL.out] at HO; exact HO.out.1, HO.out.2.1, HO.out.2.2⟩
    · have k1 : ¬ (((n2 : Nat) : Int) % 16 = 0) := by have := padN_lt L.length; unfold padN at *; omega
      have k2 : ¬ ((n2 : Nat) : Int).tmod 16 = 0 := by rw [Int.tmod_eq_emod_of_nonneg (by omega)]; exact k1
      have HO := Lib.hid (And.intro ho (And.intro hBx (And.intro hb HB)))
      clear ho hBx hb HB
      have hrd : Rd (wr.alloc (.cells #[.int .u8 0] 5)) (· = wr.heap.size) (some ⟨wr.heap.size, 0, none⟩) [0] := Rd.lit wr [0]
      go_wp2_with (at_builtin; refine wpList_app8 rfl _ _ rfl (HO.out.1.below ((Below.refl _ _).alloc (Nat.le_refl _) _)) rfl (· = wr.heap.size) (some ⟨wr.heap.size, 0, none⟩) 1 1 [0] rfl rfl hrd (fun h => by cases h) (by simp; have := padN_lt L.length; omega) ?_; intro p3 n3 c3 w3 h1 h2 h3)
      have hn3 : n3 = L.length + i + 1 := by have := h1.len; simp at this; omega
      have hsz : (wr.alloc (.cells #[.int .u8 0] 5)).heap.size = wr.heap.size + 1 := by rw [World.size_alloc]
      have hbw := (HO.out.2.2.1.alloc HO.out.2.2.2 (.cells #[.int .u8 0] 5))
      refine ⟨⟨p3, n3, c3, i + 1, rfl, by have := padN_lt L.length; omega, by rw [List.replicate_succ', ← List.append_assoc]; exact h1, fun k hk => (by rcases h2 k hk with h | h; (· exact HO.out.2.1 k h); (· have := HO.out.2.2.2; omega)), below_lift hbw h3 (by have := HO.out.2.2.2; omega) HO.out.2.1⟩, ?_⟩
      simp [lenOf]
      have := padN_lt L.length
      unfold padN at *
      omega
/-- At the head of counted's loop. -/
def CntRel (B : Nat) (w : World) (l : List UInt8) (x : UInt64) (v v6 : Value) (wr : World) : Prop := ∃ p n c i, v = .slice p n c ∧ v6 = .int .i64 ((i : Nat) : Int) ∧ i ≤ 8 ∧ OB wr p n c (l ++ leK x i) ∧ (∀ k, owB p n c k → B ≤ k) ∧ Below B w wr
theorem cv35 (n : Nat) (hn : n ≤ 1000000) (w : World) : (convert 3 35 (.int .i64 (n : Int))).run Tryz.prog w = .ok (D (UInt64.ofNat n)) w := by
  have h : IntKind.u64.wrap (n : Int) = ((UInt64.ofNat n).toNat : Int) := by
    rw [IntKind.wrap_u64, UInt64.toNat_ofNat', Nat.mod_eq_of_lt (by omega)]
    omega
  have hk : Tryz.prog.intKind 35 = .u64 := by kernel_rfl
  have h2 := run_convert_int (P := Tryz.prog) (w := w) 3 35 .i64 (n : Int) (by rw [Tryz.underlying3]; rfl) (by rw [hk]; exact Tryz.underlying35)
  rw [hk, h] at h2
  exact h2
theorem aCounted_c (B : Nat) (p : Option Addr) (n c : Nat) (l : List UInt8) (m : Nat) (w : World) (h : OB w p n c l) (hx : ∀ k, owB p n c k → B ≤ k) (hB : B ≤ w.heap.size) (hm : m ≤ 1000000) (hl : l.length ≤ 4000000) :
    Calls Tryz.prog 146 #[.slice p n c, .int .i64 (m : Int)] w (GrowOB B w (l ++ leF m)) := by
  have h0 : CntRel B w l (UInt64.ofNat m) (.slice p n c) (.int .i64 0) w := ⟨p, n, c, 0, rfl, rfl, by omega, by simpa [leK] using h, hx, Below.refl _ _⟩
  have H0 := Lib.hid h0
  have H := Lib.hid (And.intro hB hl)
  clear h hx hB h0 hl
  have cv1 := cv35 m hm
  have cv2 := cvD8
  go_enter Tryz.func146, Tryz.ntmps146
  go_wp2
  go_loopw [0, 5, 6, 18] (fun v v5 v6 _ wr => CntRel B w l (UInt64.ofNat m) v v6 wr) (fun v _ v6 _ _ => (8 - intOf v6).toNat)
  case atStart => exact H0.out
  case round =>
    obtain ⟨p2, n2, c2, i, rfl, rfl, hi, ho, hBx, hb⟩ := hrel
    have HB : B ≤ wr.heap.size := by have := hb.size; have := H.out.1; omega
    have hol := ho.len
    have HO := Lib.hid (And.intro ho (And.intro hBx (And.intro hb (And.intro HB hol))))
    clear ho hBx hb HB hol
    by_cases h8 : i < 8
    · have k1 : (i : Int) < 8 := by omega
      obtain ⟨X, hX⟩ : ∃ X, X = UInt64.ofNat m := ⟨_, rfl⟩
      rw [← hX] at HO cv1 ⊢
      clear hX
      have k2 : IntKind.i64.wrap (8 * (i : Int)) = 8 * (i : Int) := IntWalk.i64_in _ (by omega)
      have hsh : ∀ wx, (binOp .shr 35 (D X) (.int .i64 (8 * (i : Int)))).run Tryz.prog wx = .ok (D (shr64 X (8 * i))) wx := fun wx => by
        have h := D_shr (P := Tryz.prog) (w := wx) (t := 35) (x := X) .i64 (8 * (i : Int)) (by omega)
        rwa [show (8 * (i : Int)).toNat = 8 * i by omega] at h
      have hrd : Rd (wr.alloc (.cells #[.int .u8 ((cut8 (shr64 X (8 * i))).toNat : Int)] 5)) (· = wr.heap.size) (some ⟨wr.heap.size, 0, none⟩) [cut8 (shr64 X (8 * i))] := Rd.lit wr [cut8 (shr64 X (8 * i))]
      generalize hZ : cut8 (shr64 X (8 * i)) = Z at *
      go_wp2_with (at_builtin; refine wpList_app8 rfl _ _ rfl (HO.out.1.below ((Below.refl _ _).alloc (Nat.le_refl _) _)) rfl (· = wr.heap.size) (some ⟨wr.heap.size, 0, none⟩) 1 1 [Z] rfl rfl hrd (fun h => by cases h) (by have := H.out.2; simp [leK_len]; omega) ?_; intro p3 n3 c3 w3 h1 h2 h3)
      have hsz : (wr.alloc (.cells #[.int .u8 (Z.toNat : Int)] 5)).heap.size = wr.heap.size + 1 := by rw [World.size_alloc]
      have hbw := (HO.out.2.2.1.alloc HO.out.2.2.2.1 (.cells #[.int .u8 (Z.toNat : Int)] 5))
      refine ⟨⟨p3, n3, c3, i + 1, rfl, by simp, by omega, by rw [leK, hZ, ← List.append_assoc]; exact h1, fun k hk => (by rcases h2 k hk with h | h; (· exact HO.out.2.1 k h); (· have := HO.out.2.2.2.1; omega)), below_lift hbw h3 (by have := HO.out.2.2.2.1; omega) HO.out.2.1⟩, by simp [intOf]; omega⟩
    · obtain rfl : i = 8 := by omega
      have k1 : ¬ ((8 : Nat) : Int) < 8 := by omega
      go_wp2
      go_ret
      exact ⟨p2, n2, c2, rfl, HO.out.1, HO.out.2.1, HO.out.2.2.1⟩
end Go.Proofs.YtolgaapiedbkfaaGreat
/-
  The contract of aead's tag. Conditions: a key of 32 bytes, a nonce of 12, and no more bytes than a million.
-/
namespace Go.Kx
open Go.Proofs.YtolgaapiedbkfaaGreat
def tagM (aad ct : List UInt8) : List UInt8 := padTo (padTo aad ++ ct) ++ leF aad.length ++ leF ct.length
def aTagF (key nonce ct aad : List UInt8) : List UInt8 := tagF ((blockF key 0 nonce).take 32) (tagM aad ct)
theorem tagM_len (aad ct : List UInt8) : (tagM aad ct).length = (padTo (padTo aad ++ ct)).length + 16 := by
  unfold tagM leF
  simp [leK_len]
theorem tagF_len (key m : List UInt8) : (tagF key m).length = 16 := tagK_len _ _
theorem padTo_le (l : List UInt8) : (padTo l).length ≤ l.length + 16 := by rw [padTo_len]; have := padN_lt l.length; omega
end Go.Kx
namespace Go.Proofs.YtolgaapiedbkfaaGreat
open Go.RowKit Go.Kx
set_option linter.unusedVariables false
set_option linter.unusedSimpArgs false
set_option maxRecDepth 100000
/-- The blocks of tag. -/
structure AtI (w : World) (key nonce : List UInt8) (W : World) : Prop where
  k : ArrB W w.heap.size 29 key
  n : ArrB W (w.heap.size + 1) 95 nonce
  o : ArrB W (w.heap.size + 2) 186 (List.replicate 16 0)
  b : Below w.heap.size w W
theorem AtI.below {w : World} {key nonce : List UInt8} {W W' : World} (h : AtI w key nonce W) (hb : Below W.heap.size W W') : AtI w key nonce W' := ⟨h.k.below hb, h.n.below hb, h.o.below hb, h.b.trans (hb.mono h.b.size)⟩
theorem AtI.first (w : World) (key nonce : List UInt8) : AtI w key nonce (((w.alloc (.cells (key.map B8).toArray 29)).alloc (.cells (nonce.map B8).toArray 95)).alloc (.cells ((List.replicate 16 (0 : UInt8)).map B8).toArray 186)) := by
  have a2 := ArrB.new (w.alloc (.cells (key.map B8).toArray 29)) 95 nonce
  have a3 := ArrB.new ((w.alloc (.cells (key.map B8).toArray 29)).alloc (.cells (nonce.map B8).toArray 95)) 186 (List.replicate 16 0)
  rw [World.size_alloc] at a2
  rw [World.size_alloc, World.size_alloc] at a3
  have b1 : ∀ (w : World) o, Below w.heap.size w (w.alloc o) := fun w o => (Below.refl _ _).alloc (Nat.le_refl _) _
  exact ⟨((ArrB.new w _ key).below (b1 _ _)).below (b1 _ _), a2.below (b1 _ _), a3, (((Below.refl _ w).alloc (Nat.le_refl _) _).alloc (by simp) _).alloc (by simp; omega) _⟩
theorem Tryz.infoB12 : (Tryz.prog.info? 95).map (·.size) = some 12 := by kernel_rfl
theorem arr32 (G n c : Nat) (h : 32 ≤ n) (w : World) : (Instr.arrayAt 29 (.slice (some ⟨G, 0, none⟩) n c)).run Tryz.prog w = .ok (.pointer (some ⟨G, 0, none⟩)) w := by
  have h2 : ¬ n < 32 := by omega
  simp [Instr.arrayAt, Sem.run_bind, run_underlying Tryz.underlying29 w, h2]
set_option maxHeartbeats 4000000 in
theorem aTag_c (key nonce : List UInt8) (T : Nat → Prop) (q : Option Addr) (m k : Nat) (ct : List UInt8) (T2 : Nat → Prop) (q2 : Option Addr) (m2 k2 : Nat) (aad : List UInt8) (w : World) (hk : key.length = 32) (hn : nonce.length = 12)
    (hR : Rd w T q ct) (hq : q = none → k = 0) (hm : ct.length = m) (hR2 : Rd w T2 q2 aad) (hq2 : q2 = none → k2 = 0) (hm2 : aad.length = m2) (hl : ct.length + aad.length ≤ 900000) :
    Calls Tryz.prog 107 #[.agg (key.map B8).toArray, .agg (nonce.map B8).toArray, .slice q m k, .slice q2 m2 k2] w (BackR w (.agg ((aTagF key nonce ct aad).map B8).toArray)) := by
  have hkz : ((key.map B8).toArray).size = 32 := by simp [hk]
  have hnz : ((nonce.map B8).toArray).size = 12 := by simp [hn]
  have H := Lib.hid (And.intro hR (And.intro hq (And.intro hm (And.intro hR2 (And.intro hq2 (And.intro hm2 hl))))))
  clear hR hq hm hR2 hq2 hm2 hl
  go_enter Tryz.func107, Tryz.ntmps107
  go_upto_region 1 with (fail)
  refine wp_world (AtI w key nonce) (AtI.first w key nonce) ?_
  intro W0 hI0
  have I0 := Lib.hid hI0
  clear hI0
  go_upto_region 2 with (first
    | (refine ld_arrB rfl 29 (.tmp 4) rfl w.heap.size rfl _ _ I0.out.k _ _ Tryz.underlying29 (by rw [hk]; exact Tryz.infoB32) ?_)
    | (refine ld_arrB rfl 95 (.tmp 5) rfl (w.heap.size + 1) rfl _ _ I0.out.n _ _ Tryz.underlying95 (by rw [hn]; exact Tryz.infoB12) ?_)
    | (go_at_call 144; refine (block_c key 0 nonce _ hk hn).mono ?_; rintro e w1 ⟨rfl, hb1⟩)
    | (refine st_arrB rfl 141 (.tmp 9) (.tmp 13) rfl w1.heap.size (blockF key 0 nonce) rfl rfl _ (List.replicate 64 0) (ArrB.new w1 141 (List.replicate 64 0)) (by rw [blockF_len]; exact Tryz.infoB64) (by rw [blockF_len]; simp) ?_; intro w2 hA2 hO2))
  have hb2 : Below W0.heap.size W0 w2 := by
    have h2 := below_only ((Below.refl w1.heap.size w1).alloc (Nat.le_refl _) (.cells ((List.replicate 64 (0 : UInt8)).map B8).toArray 141)) (by rw [World.size_alloc]; omega) hO2 (fun k hk e => by omega)
    exact hb1.trans (h2.mono hb1.size)
  have hge : w.heap.size + 2 < w1.heap.size := by have := hb1.size; have := I0.out.o.lt; omega
  have I2 := Lib.hid (I0.out.below hb2)
  have HA2 := Lib.hid (And.intro hA2 (And.intro hge hA2.lt))
  clear hb1 hA2 hO2 hge I0 hb2
  generalize w1.heap.size = G at *
  clear w1 W0
  generalize hBB : w2.heap.size = B2 at *
  have hR1 : ∀ {wx : World}, Below B2 w2 wx → Rd wx T q ct := fun hb => H.out.1.below (I2.out.b.trans (hb.mono (by have := I2.out.b.size; omega)))
  have hR2 : ∀ {wx : World}, Below B2 w2 wx → Rd wx T2 q2 aad := fun hb => H.out.2.2.2.1.below (I2.out.b.trans (hb.mono (by have := I2.out.b.size; omega)))
  have l1 := padTo_le aad
  have l2 := padTo_le (padTo aad ++ ct)
  rw [List.length_append] at l2
  have hL := H.out.2.2.2.2.2.2
  go_upto_region 3 with (first
    | (go_at_call 145; apply Calls.mono; (· (with_reducible refine aPadded_c B2 none 0 0 [] T2 q2 m2 k2 aad _ ?_ ?_ ?_ ?_ ?_ ?_ ?_); (· exact OB.nil _); (· intro k hk; cases hk); (· omega); (· exact hR2 (Below.refl _ _)); (· exact H.out.2.2.2.2.1); (· exact H.out.2.2.2.2.2.1); (· simp; omega)); rintro e u3 ⟨p3, n3, c3, rfl, h3, x3, b3⟩; rw [List.nil_append] at h3)
    | (go_at_call 145; apply Calls.mono; (· (with_reducible refine aPadded_c B2 p3 n3 c3 (padTo aad) T q m k ct _ ?_ ?_ ?_ ?_ ?_ ?_ ?_); (· exact h3); (· exact x3); (· have := b3.size; omega); (· exact hR1 b3); (· exact H.out.2.1); (· exact H.out.2.2.1); (· omega)); rintro e u4 ⟨p4, n4, c4, rfl, h4, x4, b4⟩))
  have b4 := b3.trans b4
  clear h3 x3 b3
  go_upto_region 4 with (first
    | (go_at_call 146; apply Calls.mono; (· (with_reducible refine aCounted_c B2 p4 n4 c4 (padTo (padTo aad ++ ct)) m2 _ ?_ ?_ ?_ ?_ ?_); (· exact h4); (· exact x4); (· have := b4.size; omega); (· have := H.out.2.2.2.2.2.1; omega); (· omega)); rintro e u5 ⟨p5, n5, c5, rfl, h5, x5, b5⟩; have b5 := b4.trans b5)
    | (go_at_call 146; apply Calls.mono; (· (with_reducible refine aCounted_c B2 p5 n5 c5 (padTo (padTo aad ++ ct) ++ leF m2) m _ ?_ ?_ ?_ ?_ ?_); (· exact h5); (· exact x5); (· have := b5.size; omega); (· have := H.out.2.2.1; omega); (· rw [List.length_append]; unfold leF; rw [leK_len]; omega)); rintro e u6 ⟨p6, n6, c6, rfl, h6, x6, b6⟩; have b6 := b5.trans b6))
  have hM : padTo (padTo aad ++ ct) ++ leF m2 ++ leF m = tagM aad ct := by rw [← H.out.2.2.1, ← H.out.2.2.2.2.2.1]; rfl
  rw [hM] at h6
  have hML := tagM_len aad ct
  have hM16 := padTo_16 (padTo aad ++ ct)
  have hn6 := h6.len
  obtain ⟨g6, rfl, ho6, hg6⟩ := h6.pos (by omega)
  have hf6 := h6.form
  have hb6 : Below w.heap.size w u6 := I2.out.b.trans (b6.mono (by have := I2.out.b.size; omega))
  have hA6 : ArrB u6 G 141 (blockF key 0 nonce) := by
    have hb := b6; rw [← hBB] at hb; exact HA2.out.1.below hb
  have hO6 : ArrB u6 (w.heap.size + 2) 186 (List.replicate 16 0) := by
    have hb := b6; rw [← hBB] at hb; exact I2.out.o.below hb
  have hbl := blockF_len key 0 nonce
  have hRes : aTagF key nonce ct aad = tagF ((blockF key 0 nonce).take 32) (tagM aad ct) := rfl
  generalize blockF key 0 nonce = BK at *
  have hrg : u6.rangeAt G 0 ((BK.take 32).map B8) := by
    intro j v hv
    rw [List.getElem?_map, List.getElem?_take] at hv
    rw [Nat.zero_add]
    split at hv
    · rename_i hj
      have hj2 : j < BK.length := by omega
      rw [List.getElem?_eq_getElem hj2] at hv
      cases hv
      exact hA6.c j hj2
    · cases hv
  have hk32 : (BK.take 32).length = 32 := by rw [List.length_take, hbl]; rfl
  generalize BK.take 32 = K32 at *
  have HRes := Lib.hid hRes
  clear hRes
  have HZ := Lib.hid (And.intro h6 (And.intro hf6.1 (And.intro trivial (And.intro hb6 (And.intro hO6 (And.intro hM16 hML))))))
  clear h6 hf6 hb6 hO6 hM16 hML h4 x4 b4 h5 x5 b5 b6 x6 hM hR1 hR2 l1 l2 hL HA2 I2 hA6 hbl
  have har := fun (wx : World) => arr32 G 32 64 (by decide) wx
  go_wp2_with (first
    | (refine wpList_load_mid rfl 29 (.tmp 26) rfl G 0 rfl (K32.map B8) _ hrg Tryz.underlying29 rfl (by rw [List.length_map, hk32]; exact Tryz.infoB32) ?_)
    | (go_at_call 147; apply Calls.mono; (· (with_reducible refine tag_c K32 (fun k => owB (some ⟨g6, 0, none⟩) n6 c6 k) g6 0 c6 n6 (tagM aad ct) _ ?_ ?_ ?_ ?_ ?_ ?_); (· exact hk32); (· exact HZ.out.1.rd); (· exact hn6); (· have := HZ.out.2.2.2.2.2.1; have := HZ.out.2.2.2.2.2.2; omega); (· have := HZ.out.2.2.2.2.2.2; omega); (· exact HZ.out.2.1)); rintro e u7 ⟨rfl, b7⟩)
    | (refine st_arrB rfl 186 (.tmp 8) (.tmp 29) rfl (w.heap.size + 2) (tagF K32 (tagM aad ct)) rfl rfl _ (List.replicate 16 0) (HZ.out.2.2.2.2.1.below b7) (by rw [tagF_len]; exact Tryz.infoB16) (by rw [tagF_len]; simp) ?_; intro u8 hA8 hO8))
  refine bodyPost_ret (v := .agg ((tagF K32 (tagM aad ct)).map B8).toArray) (results_cell_row (P := Tryz.prog) Tryz.results107 _ _ (w.heap.size + 2) _ _ _ _ rfl hA8 Tryz.underlying186 rfl (by rw [Tryz.infoB16]; simp [tagF_len])) rfl (And.intro ?_ ?_)
  · rw [HRes.out]
  · have h := HZ.out.2.2.2.1.trans (b7.mono HZ.out.2.2.2.1.size)
    exact below_only h h.size hO8 (fun k hk e => by omega)
end Go.Proofs.YtolgaapiedbkfaaGreat
/-
  The contracts of aead's Seal and of sha's Same (of equal bytes). Conditions: a key of 32 bytes, a nonce of 12, one byte at least and no more than a million.
-/
namespace Go.Kx
open Go.Proofs.YtolgaapiedbkfaaGreat
def sealF (key nonce text aad : List UInt8) : List UInt8 := strF key 1 nonce text ++ aTagF key nonce (strF key 1 nonce text) aad
end Go.Kx
namespace Go.Proofs.YtolgaapiedbkfaaGreat
open Go.RowKit Go.Kx
set_option linter.unusedVariables false
set_option linter.unusedSimpArgs false
set_option maxRecDepth 100000
/-- The blocks of Seal and Open. -/
structure AsI (w : World) (key nonce : List UInt8) (W : World) : Prop where
  k : ArrB W w.heap.size 29 key
  n : ArrB W (w.heap.size + 1) 95 nonce
  b : Below w.heap.size w W
theorem AsI.below {w : World} {key nonce : List UInt8} {W W' : World} (h : AsI w key nonce W) (hb : Below W.heap.size W W') : AsI w key nonce W' := ⟨h.k.below hb, h.n.below hb, h.b.trans (hb.mono h.b.size)⟩
theorem AsI.first (w : World) (key nonce : List UInt8) : AsI w key nonce ((w.alloc (.cells (key.map B8).toArray 29)).alloc (.cells (nonce.map B8).toArray 95)) := by
  have a2 := ArrB.new (w.alloc (.cells (key.map B8).toArray 29)) 95 nonce
  rw [World.size_alloc] at a2
  have b1 : ∀ (w : World) o, Below w.heap.size w (w.alloc o) := fun w o => (Below.refl _ _).alloc (Nat.le_refl _) _
  exact ⟨(ArrB.new w _ key).below (b1 _ _), a2, ((Below.refl _ w).alloc (Nat.le_refl _) _).alloc (by simp) _⟩
theorem stream_1 (key : List UInt8) (nonce : List UInt8) (S : Nat → Prop) (ad : Addr) (len cap : Nat) (b : List UInt8) (w : World) (hk : key.length = 32) (hn : nonce.length = 12)
    (hR : Rd w S (some ad) b) (hl : b.length = len) (h0 : 0 < len) (hlb : len ≤ 1000000) :
    Calls Tryz.prog 106 #[.agg (key.map B8).toArray, .int .u32 1, .agg (nonce.map B8).toArray, .slice (some ad) len cap] w (NewOB w (strF key 1 nonce b)) := stream_c key 1 nonce S ad len cap b w hk hn hR hl h0 hlb
set_option maxHeartbeats 4000000 in
theorem aSeal_c (key nonce : List UInt8) (T : Nat → Prop) (ad : Addr) (m k : Nat) (tx : List UInt8) (T2 : Nat → Prop) (q2 : Option Addr) (m2 k2 : Nat) (aad : List UInt8) (w : World) (hk : key.length = 32) (hn : nonce.length = 12)
    (hR : Rd w T (some ad) tx) (hm : tx.length = m) (h0 : 0 < m) (hR2 : Rd w T2 q2 aad) (hq2 : q2 = none → k2 = 0) (hm2 : aad.length = m2) (hl : tx.length + aad.length ≤ 900000) :
    Calls Tryz.prog 63 #[.agg (key.map B8).toArray, .agg (nonce.map B8).toArray, .slice (some ad) m k, .slice q2 m2 k2] w (NewOB w (sealF key nonce tx aad)) := by
  have hkz : ((key.map B8).toArray).size = 32 := by simp [hk]
  have hnz : ((nonce.map B8).toArray).size = 12 := by simp [hn]
  have H := Lib.hid (And.intro hR (And.intro hm (And.intro h0 (And.intro hR2 (And.intro hq2 (And.intro hm2 hl))))))
  clear hR hm h0 hR2 hq2 hm2 hl
  go_enter Tryz.func63, Tryz.ntmps63
  go_upto_region 1 with (fail)
  refine wp_world (AsI w key nonce) (AsI.first w key nonce) ?_
  intro W0 hI0
  have I0 := Lib.hid hI0
  clear hI0
  go_upto_region 2 with (first
    | (refine ld_arrB rfl 29 (.tmp 4) rfl w.heap.size rfl _ _ I0.out.k _ _ Tryz.underlying29 (by rw [hk]; exact Tryz.infoB32) ?_)
    | (refine ld_arrB rfl 95 (.tmp 5) rfl (w.heap.size + 1) rfl _ _ I0.out.n _ _ Tryz.underlying95 (by rw [hn]; exact Tryz.infoB12) ?_)
    | (go_at_call 106; apply Calls.mono; (· (with_reducible refine stream_1 key nonce T ad m k tx _ ?_ ?_ ?_ ?_ ?_ ?_); (· exact hk); (· exact hn); (· exact H.out.1.below I0.out.b); (· exact H.out.2.1); (· exact H.out.2.2.1); (· have := H.out.2.1; have := H.out.2.2.2.2.2.2; omega)); rintro e w1 ⟨p1, n1, c1, rfl, h1, x1, b1⟩))
  have I1 := Lib.hid (I0.out.below b1)
  have hl1 : (strF key 1 nonce tx).length = tx.length := strF_len _ _ _ _
  have hlt1 := I0.out.n.lt
  go_upto_region 3 with (first
    | (refine ld_arrB rfl 29 (.tmp 4) rfl w.heap.size rfl _ _ I1.out.k _ _ Tryz.underlying29 (by rw [hk]; exact Tryz.infoB32) ?_)
    | (refine ld_arrB rfl 95 (.tmp 5) rfl (w.heap.size + 1) rfl _ _ I1.out.n _ _ Tryz.underlying95 (by rw [hn]; exact Tryz.infoB12) ?_)
    | (go_at_call 107; apply Calls.mono; (· (with_reducible refine aTag_c key nonce (fun k => owB p1 n1 c1 k) p1 n1 c1 (strF key 1 nonce tx) T2 q2 m2 k2 aad _ ?_ ?_ ?_ ?_ ?_ ?_ ?_ ?_ ?_); (· exact hk); (· exact hn); (· exact h1.rd); (· exact h1.nilc); (· exact h1.len); (· exact H.out.2.2.2.1.below I1.out.b); (· exact H.out.2.2.2.2.1); (· exact H.out.2.2.2.2.2.1); (· rw [hl1]; exact H.out.2.2.2.2.2.2)); rintro e w2 ⟨rfl, b2⟩)
    | (refine st_arrB rfl 186 (.tmp 10) (.tmp 19) rfl w2.heap.size (aTagF key nonce (strF key 1 nonce tx) aad) rfl rfl _ (List.replicate 16 0) (ArrB.new w2 186 (List.replicate 16 0)) (by unfold aTagF; rw [tagF_len]; exact Tryz.infoB16) (by unfold aTagF; rw [tagF_len]; simp) ?_; intro w3 hA3 hO3))
  have hb3 : Below w2.heap.size w2 w3 := below_only ((Below.refl w2.heap.size w2).alloc (Nat.le_refl _) (.cells ((List.replicate 16 (0 : UInt8)).map B8).toArray 186)) (by rw [World.size_alloc]; omega) hO3 (fun k hk e => by omega)
  have h3 := (h1.below b2).below hb3
  have hb := (I1.out.b.trans (b2.mono I1.out.b.size)).trans (hb3.mono (Nat.le_trans I1.out.b.size b2.size))
  have hS : sealF key nonce tx aad = strF key 1 nonce tx ++ aTagF key nonce (strF key 1 nonce tx) aad := rfl
  have hle : (aTagF key nonce (strF key 1 nonce tx) aad).length = 16 := tagF_len _ _
  generalize aTagF key nonce (strF key 1 nonce tx) aad = TG at *
  generalize strF key 1 nonce tx = CT at *
  have hrd := ArrB.rd hA3
  have HS := Lib.hid hS
  clear hS hO3
  go_wp2_with (at_builtin; refine wpList_app8 rfl _ _ rfl h3 rfl (· = w2.heap.size) (some ⟨w2.heap.size, 0, none⟩) 16 16 TG rfl hle hrd (fun h => by cases h) (by have := H.out.2.2.2.2.2.2; omega) ?_; intro p4 n4 c4 w4 h4 x4 hO4)
  go_ret
  refine ⟨p4, n4, c4, rfl, by rw [HS.out]; exact h4, fun k hk => (by rcases x4 k hk with h | h; (· have := x1 k h; have := I0.out.b.size; omega); (· have := hb.size; omega)), below_only hb hb.size hO4 (fun k hk e => by have := x1 k e; have := I0.out.b.size; omega)⟩
end Go.Proofs.YtolgaapiedbkfaaGreat
/-
  The contracts of sha's keyed and Mac. Conditions: a key of no more than 64 bytes, and no more bytes than a million.
-/
namespace Go.Kx
open Go.Proofs.YtolgaapiedbkfaaGreat
def padK (key : List UInt8) : List UInt8 := key ++ List.replicate (64 - key.length) 0
def keyK (key : List UInt8) (x : UInt8) : Nat → List UInt8
  | 0 => padK key
  | i + 1 => (keyK key x i).set i ((keyK key x i).getD i 0 ^^^ x)
def keyedF (key : List UInt8) (x : UInt8) : List UInt8 := keyK key x 64
theorem keyK_len (key : List UInt8) (x : UInt8) (hk : key.length ≤ 64) : ∀ i, (keyK key x i).length = 64
  | 0 => by simp [keyK, padK]; omega
  | i + 1 => by rw [keyK, List.length_set]; exact keyK_len key x hk i
end Go.Kx
namespace Go.Proofs.YtolgaapiedbkfaaGreat
open Go.RowKit Go.Kx
set_option linter.unusedVariables false
set_option linter.unusedSimpArgs false
set_option maxRecDepth 100000
theorem src8 {w : World} {S : Nat → Prop} {p : Option Addr} {l : List UInt8} (h : Rd w S p l) (h0 : 0 < (l.map B8).length) : ∃ ad, p = some ad ∧ ∀ j v, (l.map B8)[j]? = some v → w.cell? (ad.add j) = some v := by
  cases p with
  | none => rw [h.none_nil] at h0; simp at h0
  | some a =>
    refine ⟨a, rfl, fun j v hv => ?_⟩
    simp only [List.getElem?_map, Option.map_eq_some_iff] at hv
    obtain ⟨x, hx, rfl⟩ := hv
    obtain ⟨hj, rfl⟩ := List.getElem?_eq_some_iff.1 hx
    obtain ⟨a', ha', _, hc'⟩ := h j hj
    cases ha'
    exact hc'
theorem ones8 (l : List UInt8) : ∀ v ∈ l.map B8, v.oneCell' = true := by intro v hv; obtain ⟨x, _, rfl⟩ := List.mem_map.1 hv; rfl
theorem splice_pad (n : Nat) (key : List UInt8) : splice ((List.replicate n (0 : UInt8)).map B8) 0 (key.map B8) = (key ++ List.replicate (n - key.length) 0).map B8 := by
  rw [List.map_replicate]
  simp [splice, List.drop_replicate]
theorem OB.of_arr {w : World} {r : Nat} {xs : List UInt8} {n : Nat} (h : ArrB w r 5 xs) (hn : xs.length = n) (hm : n ≤ 1000000) : OB w (some ⟨r, 0, none⟩) n n xs := by
  subst hn
  exact ⟨⟨by simp, .inr ⟨r, xs.length, (xs.map B8).toArray, rfl, Nat.zero_le _, h, Nat.le_refl _, by unfold maxLen; omega, by simp, by simp [List.take_of_length_le]⟩⟩, rfl⟩
theorem run_mk8 (n : Nat) (h : n ≤ 1000000) (w : World) : (Instr.makeSlice 38 (.int .i64 (n : Int)) (.int .i64 (n : Int))).run Tryz.prog w = .ok (.slice (some ⟨w.heap.size, 0, none⟩) n n) (w.alloc (.cells ((List.replicate n (0 : UInt8)).map B8).toArray 5)) := by
  have h1 := run_make_row' (P := Tryz.prog) 38 5 (.int .u8 0) 1 Tryz.underlying38 Tryz.info5 rfl .i64 .i64 n (by omega) (by omega) w
  have e : madeCells #[.int .u8 0] n = ((List.replicate n (0 : UInt8)).map B8).toArray := by
    rw [← Array.toArray_toList (xs := madeCells _ _), toList_madeCells_one, List.map_replicate]
    rfl
  rw [e] at h1
  exact h1
def KyRel (w : World) (key : List UInt8) (x : UInt8) (v13 : Value) (wr : World) : Prop := ∃ i : Nat, v13 = .int .i64 (i : Int) ∧ i ≤ 64 ∧ ArrB wr w.heap.size 5 (keyK key x i) ∧ Below w.heap.size w wr
set_option maxHeartbeats 4000000 in
theorem keyed_c (T : Nat → Prop) (q : Option Addr) (m k : Nat) (key : List UInt8) (x : UInt8) (w : World) (hR : Rd w T q key) (hm : key.length = m) (hk : m ≤ 64) :
    Calls Tryz.prog 108 #[.slice q m k, .int .u8 (x.toNat : Int)] w (NewOB w (keyedF key x)) := by
  have H := Lib.hid (And.intro hR (And.intro hm hk))
  clear hR hm hk
  have hmk : ∀ wx : World, (Instr.makeSlice 38 (.int .i64 64) (.int .i64 64)).run Tryz.prog wx = .ok (.slice (some ⟨wx.heap.size, 0, none⟩) 64 64) (wx.alloc (.cells ((List.replicate 64 (0 : UInt8)).map B8).toArray 5)) := run_mk8 64 (by omega)
  generalize hz : ((List.replicate 64 (0 : UInt8)).map B8).toArray = Z64 at *
  go_enter Tryz.func108, Tryz.ntmps108
  go_upto_region 2 with (fail)
  have hA0 : ArrB (w.alloc (.cells Z64 5)) w.heap.size 5 (List.replicate 64 0) := by rw [← hz]; exact ArrB.new _ _ _
  have hb0 : Below w.heap.size w (w.alloc (.cells Z64 5)) := (Below.refl _ w).alloc (Nat.le_refl _) _
  generalize w.alloc (.cells Z64 5) = w1 at *
  have hr1 := H.out.1.below hb0
  have hft : 0 + (key.map B8).length ≤ ((List.replicate 64 (0 : UInt8)).map B8).length := by rw [List.length_map, List.length_map, List.length_replicate, H.out.2.1]; have := H.out.2.2; omega
  have hmn : (key.map B8).length = Nat.min m 64 := by rw [List.length_map, H.out.2.1]; exact (Nat.min_eq_left H.out.2.2).symm
  go_upto_region 3 with (refine wpList_copy_splice rfl (.tmp 8) (.tmp 9) 38 38 rfl 5 Tryz.underlying38 (by kernel_rfl) _ _ _ _ _ _ rfl rfl w.heap.size 0 ((List.replicate 64 (0 : UInt8)).map B8) 5 hA0 (key.map B8) hmn (fun hp => ⟨rfl, src8 hr1 hp⟩) hft (ones8 _) w.heap.size w hb0 (Nat.le_refl _) ?_; intro w2 hg2 hb2)
  have hA2 : ArrB w2 w.heap.size 5 (padK key) := by
    have h := hg2.out
    rw [splice_pad] at h
    exact h
  have h0 : KyRel w key x (.int .i64 0) w2 := ⟨0, rfl, by omega, hA2, hb2⟩
  have H0 := Lib.hid h0
  clear h0 hA2 hb2 hg2 hr1 hA0 hb0 hft hmn hmk hz
  go_upto_region 4 with (fail)
  go_loopw [6, 13, 23] (fun v6 v13 v23 wr => KyRel w key x v13 wr) (fun _ v13 _ _ => (64 - (intOf v13).toNat))
  case atStart => exact H0.out
  case round =>
    obtain ⟨i, rfl, hi, hA, hb⟩ := hrel
    have hlen := keyK_len key x (by rw [H.out.2.1]; exact H.out.2.2) i
    by_cases h64 : i < 64
    · have k1 : (i : Int) < 64 := by omega
      obtain ⟨X, hX⟩ : ∃ X, X = (keyK key x i)[i]'(by omega) := ⟨_, rfl⟩
      have hst : keyK key x (i + 1) = (keyK key x i).set i (X ^^^ x) := by
        rw [keyK, List.getD_eq_getElem?_getD, List.getElem?_eq_getElem (by omega : i < (keyK key x i).length), hX]
        rfl
      have hc : wr.cell? ⟨w.heap.size, i, none⟩ = some (.int .u8 (X.toNat : Int)) := by rw [hX]; exact hA.c i (by omega)
      have hf := hA.fr i
      have hbx := bits_xor8 X x
      have HA := Lib.hid (And.intro hA (And.intro hb hst))
      have k3 : wrap64 ((i : Int) + 1) = (i : Int) + 1 := IntWalk.wrap64_in _ ⟨by omega, by omega⟩
      clear hA hb hst hX hlen
      go_wp2
      have hs := HA.out.1.set i (X ^^^ x)
      rw [← HA.out.2.2] at hs
      have ex : B8 (X ^^^ x) = .int .u8 ((X.toNat ^^^ x.toNat : Nat) : Int) := by unfold B8; rw [UInt8.toNat_xor]
      rw [ex] at hs
      refine ⟨⟨i + 1, by simp, by omega, hs, HA.out.2.1.setCell (p := ⟨w.heap.size, i, none⟩) (Nat.le_refl _) _⟩, by simp [intOf]; omega⟩
    · obtain rfl : i = 64 := by omega
      have k1 : ¬ ((64 : Nat) : Int) < 64 := by omega
      have HA := Lib.hid (And.intro hA (And.intro hb hlen))
      clear hA hb hlen
      go_wp2
      go_ret
      exact ⟨_, 64, 64, rfl, OB.of_arr HA.out.1 HA.out.2.2 (by omega), fun k hk => by cases hk; exact Nat.le_refl _, HA.out.2.1⟩
end Go.Proofs.YtolgaapiedbkfaaGreat
/-
  The contracts of sha's Same, of equal bytes, and of aead's Open, of what Seal tells. Conditions: as in Seal.
-/
namespace Go.Proofs.YtolgaapiedbkfaaGreat
open Go.RowKit Go.Kx
set_option linter.unusedVariables false
set_option linter.unusedSimpArgs false
set_option maxRecDepth 100000
theorem or80 : bits .or .u8 0 0 = 0 := by decide
set_option maxHeartbeats 4000000 in
theorem same_c (S T : Nat → Prop) (g o c g2 o2 c2 n : Nat) (b : List UInt8) (w : World) (hR : Rd w S (some ⟨g, o, none⟩) b) (hR2 : Rd w T (some ⟨g2, o2, none⟩) b) (hn : b.length = n) (hnm : n ≤ 1000000) :
    Calls Tryz.prog 172 #[.slice (some ⟨g, o, none⟩) n c, .slice (some ⟨g2, o2, none⟩) n c2] w fun e w' => e = .returned (.bool true) ∧ w' = w := by
  have HR := Lib.hid (And.intro hR (And.intro hR2 (And.intro hn hnm)))
  clear hR hR2 hn hnm
  have e1 := or80
  go_enter Tryz.func172, Tryz.ntmps172
  go_wp2
  go_loopw [5, 6, 7, 15, 28] (fun v5 v6 v7 v15 v28 wr => ∃ i : Nat, v15 = .int .i64 (i : Int) ∧ v5 = .int .u8 0 ∧ i ≤ n ∧ wr = w) (fun _ _ _ v15 _ _ => (n - (intOf v15).toNat))
  case atStart => exact ⟨0, rfl, rfl, by omega, rfl⟩
  case round =>
    obtain ⟨i, rfl, rfl, hi, hwr⟩ := hrel
    subst hwr
    by_cases hik : i < n
    · have hil : i < b.length := by rw [HR.out.2.2.1]; exact hik
      obtain ⟨a, ha, _, hca⟩ := HR.out.1 i hil
      cases ha
      obtain ⟨a2, ha2, _, hca2⟩ := HR.out.2.1 i hil
      cases ha2
      have hadd : (⟨g, o, none⟩ : Addr).add i = ⟨g, o + i, none⟩ := by unfold Addr.add; split <;> simp_all
      have hadd2 : (⟨g2, o2, none⟩ : Addr).add i = ⟨g2, o2 + i, none⟩ := by unfold Addr.add; split <;> simp_all
      rw [hadd] at hca
      rw [hadd2] at hca2
      obtain ⟨B, hBd⟩ : ∃ B : UInt8, B = b[i]'hil := ⟨_, rfl⟩
      rw [← hBd] at hca hca2
      have hc1 : wr.cell? ⟨g, o + i, none⟩ = some (.int .u8 (B.toNat : Int)) := hca
      have hc2 : wr.cell? ⟨g2, o2 + i, none⟩ = some (.int .u8 (B.toNat : Int)) := hca2
      have hx : bits .xor .u8 (B.toNat : Int) (B.toNat : Int) = 0 := by rw [bits_xor8, UInt8.xor_self]; rfl
      have hnm := HR.out.2.2.2
      have k3 : wrap64 ((i : Int) + 1) = (i : Int) + 1 := IntWalk.wrap64_in _ ⟨by omega, by omega⟩
      have k1 : (i : Int) < (n : Int) := by omega
      clear hca hca2 hBd hadd hadd2 hil
      go_wp2
      refine ⟨⟨i + 1, by simp, rfl, by omega, trivial⟩, by simp [intOf]; omega⟩
    · have k1 : ¬ (i : Int) < (n : Int) := by omega
      go_wp2
      go_ret
      exact ⟨rfl, rfl⟩
theorem run_ldB {ρ : Operand → Value} {dst : Option Tmp} {x : Operand} {t ty : TypeId} {pos : String} {after : Array Edge} {gd : Option (Nat × Bool)} {w : World} {g : Nat} {xs : List UInt8} {n e sz : Nat} (hg : ArrB w g t xs) (hu : Tryz.prog.underlying t = some (.array n e)) (hi : (Tryz.prog.info? t).map (·.size) = some sz) (hl : xs.length = sz) (hx : ρ x = .pointer (some ⟨g, 0, none⟩)) :
    (execOp ρ ⟨dst, .load t x, ty, pos, after, gd⟩).run Tryz.prog w = .ok (.value (.agg (xs.map B8).toArray)) w := by
  unfold execOp
  simp only [hx, Instr.loadAt, Instr.sureAddr, Sem.run_bind, Sem.run_pure, Result.andThen_ok, run_loadVar_row w g t t (xs.map B8).toArray (0, 0) _ hg hu rfl (by rw [hi]; simp [hl])]
/-- What Open tells. -/
def OpenR (w : World) (l : List UInt8) (e : Ending) (w' : World) : Prop := ∃ p n c, e = .returned (.tuple #[.slice p n c, .int .i64 0]) ∧ OB w' p n c l ∧ (∀ k, owB p n c k → w.heap.size ≤ k) ∧ Below w.heap.size w w'
set_option maxHeartbeats 8000000 in
theorem aOpen_c (key nonce : List UInt8) (T : Nat → Prop) (g o c : Nat) (tx : List UInt8) (T2 : Nat → Prop) (q2 : Option Addr) (m2 k2 : Nat) (aad : List UInt8) (m M : Nat) (w : World) (hk : key.length = 32) (hn : nonce.length = 12)
    (hR : Rd w T (some ⟨g, o, none⟩) (sealF key nonce tx aad)) (hm : tx.length = m) (hM : M = m + 16) (hMc : M ≤ c) (h0 : 0 < m) (hR2 : Rd w T2 q2 aad) (hq2 : q2 = none → k2 = 0) (hm2 : aad.length = m2) (hl : tx.length + aad.length ≤ 900000) :
    Calls Tryz.prog 153 #[.agg (key.map B8).toArray, .agg (nonce.map B8).toArray, .slice (some ⟨g, o, none⟩) M c, .slice q2 m2 k2] w (OpenR w tx) := by
  have hkz : ((key.map B8).toArray).size = 32 := by simp [hk]
  have hnz : ((nonce.map B8).toArray).size = 12 := by simp [hn]
  have H := Lib.hid (And.intro hR (And.intro hm (And.intro h0 (And.intro hR2 (And.intro hq2 (And.intro hm2 hl))))))
  clear hR hR2 hq2 hm2
  have k1 : wrap64 ((M : Int) - 16) = (m : Int) := by rw [IntWalk.wrap64_in _ ⟨by omega, by omega⟩]; omega
  have k2' : ¬ ((m : Int) < 0) := by omega
  have k3 : (m : Int) ≤ (M : Int) := by omega
  have k4 : (m : Int) ≤ (c : Int) := by omega
  have hmM : m ≤ M := by omega
  have hmc : m ≤ c := by omega
  have hcm : ¬ (c = m) := by omega
  go_enter Tryz.func153, Tryz.ntmps153
  go_upto_region 1 with (fail)
  refine wp_world (AsI w key nonce) (AsI.first w key nonce) ?_
  intro W0 hI0
  have I0 := Lib.hid hI0
  clear hI0
  go_upto_region 4 with (fail)
  have hct : (strF key 1 nonce tx).length = m := by rw [strF_len]; exact hm
  have hcr : ∀ {wx : World}, Below W0.heap.size W0 wx → Rd wx T (some ⟨g, o, none⟩) (strF key 1 nonce tx) := fun hb => by
    have h := rd_take ((H.out.1.below I0.out.b).below hb) m
    rwa [sealF, List.take_left' hct] at h
  have htr : ∀ {wx : World}, Below W0.heap.size W0 wx → Rd wx T (some ⟨g, o + m, none⟩) (aTagF key nonce (strF key 1 nonce tx) aad) := fun hb => by
    have h := rd_drop (k := m) ((H.out.1.below I0.out.b).below hb)
    rwa [sealF, List.drop_left' hct] at h
  have hle : (aTagF key nonce (strF key 1 nonce tx) aad).length = 16 := tagF_len _ _
  have htw := strF_twice key 1 nonce tx
  generalize hTG : aTagF key nonce (strF key 1 nonce tx) aad = TG at *
  generalize strF key 1 nonce tx = CT at *
  refine wp_region_tail (S := fun wx => Below W0.heap.size W0 wx) (n := 8) (by kernel_rfl) (by decide) ?_
  try simp only [List.drop_succ_cons, List.drop_zero]
  obtain ⟨u0, hu0⟩ : ∃ u, u = W0.drew := ⟨_, rfl⟩
  have hS : Below W0.heap.size W0 u0 := by rw [hu0]; exact (Below.refl _ _).drew
  rw [← hu0]
  clear hu0
  refine wpAnyT_take (i := 0) (oi := _) (v := (.agg (key.map B8).toArray)) rfl (by kernel_rfl) (fun _ _ _ h => h) (by kernel_rfl) (fun wq hq => run_ldB (I0.out.k.below hq) Tryz.underlying29 Tryz.infoB32 hk rfl) hS ?_
  try simp only [Act.put, List.setIfInBounds_toArray, List.set_cons_zero, List.set_cons_succ]
  refine wpAnyT_take (i := 1) (oi := _) (v := (.agg (nonce.map B8).toArray)) rfl (by kernel_rfl) (fun _ _ _ h => h) (by kernel_rfl) (fun wq hq => run_ldB (I0.out.n.below hq) Tryz.underlying95 Tryz.infoB12 hn rfl) hS ?_
  try simp only [Act.put, List.setIfInBounds_toArray, List.set_cons_zero, List.set_cons_succ]
  refine wpAnyT_take (i := 2) (oi := _) (v := (.slice (some ⟨g, o, none⟩) M c)) rfl (by kernel_rfl) (fun _ _ _ h => h) (by kernel_rfl) (fun wq hq => rfl) hS ?_
  try simp only [Act.put, List.setIfInBounds_toArray, List.set_cons_zero, List.set_cons_succ]
  refine wpAnyT_take (i := 3) (oi := _) (v := (.int .i64 (m : Int))) rfl (by kernel_rfl) (fun _ _ _ h => h) (by kernel_rfl) (fun wq hq => rfl) hS ?_
  try simp only [Act.put, List.setIfInBounds_toArray, List.set_cons_zero, List.set_cons_succ]
  refine wpAnyT_take (i := 5) (oi := _) (v := (.slice q2 m2 k2)) rfl (by kernel_rfl) (fun _ _ _ h => h) (by kernel_rfl) (fun wq hq => rfl) hS ?_
  try simp only [Act.put, List.setIfInBounds_toArray, List.set_cons_zero, List.set_cons_succ]
  refine wpAnyT_take (i := 4) (oi := _) (v := (.slice (some ⟨g, o, none⟩) m c)) rfl (by kernel_rfl) (fun _ _ _ h => h) (by kernel_rfl) (fun wq hq => by go_simp) hS ?_
  try simp only [Act.put, List.setIfInBounds_toArray, List.set_cons_zero, List.set_cons_succ]
  refine wpAnyT_ready (rs := [6, 7]) (by kernel_rfl) (by simp) ?_
  refine AllReadyT.cons rfl (by decide) (fun K hC => ?_) (AllReadyT.cons rfl (by decide) (fun K hC => ?_) AllReadyT.nil)
  · go_simp
    go_wp2_with (go_at_call 107; apply Calls.mono; (· (with_reducible refine aTag_c key nonce T (some ⟨g, o, none⟩) m c CT T2 q2 m2 k2 aad _ ?_ ?_ ?_ ?_ ?_ ?_ ?_ ?_ ?_); (· exact hk); (· exact hn); (· exact hcr hS); (· intro h; cases h); (· exact hct); (· exact H.out.2.2.2.1.below (I0.out.b.trans (hS.mono I0.out.b.size))); (· exact H.out.2.2.2.2.1); (· exact H.out.2.2.2.2.2.1); (· rw [hct, ← hm]; exact hl)); rintro e u1 ⟨rfl, hb5⟩)
    have hS := hS.trans (hb5.mono hS.size)
    refine hC.out _ _ hS ?_
    clear hC K
    try simp only [Act.put, List.setIfInBounds_toArray, List.set_cons_zero, List.set_cons_succ]
    refine wpAnyT_ready (rs := [7]) (by kernel_rfl) (by simp) ?_
    refine AllReadyT.cons rfl (by decide) (fun K hC => ?_) AllReadyT.nil
    go_simp
    go_wp2
    refine hC.out _ _ (hS.alloc hS.size _) ?_
    clear hC K
    try simp only [Act.put, List.setIfInBounds_toArray, List.set_cons_zero, List.set_cons_succ]
    have hA9 := ArrB.new u1 186 (List.replicate 16 0)
    have hge := hS.size
    have hS := hS.alloc hS.size (.cells ((List.replicate 16 (0 : UInt8)).map B8).toArray 186)
    obtain ⟨B9, hB9⟩ : ∃ B, B = u1.heap.size := ⟨_, rfl⟩
    rw [← hB9] at hA9 hge ⊢
    change wpAnyT _ _ _ _ _ _ _ _ _ _ (u1.alloc (.cells ((List.replicate 16 (0 : UInt8)).map B8).toArray 186))
    generalize u1.alloc (.cells ((List.replicate 16 (0 : UInt8)).map B8).toArray 186) = u2 at *
    clear hB9
    refine wpAnyT_tail (by kernel_rfl) ?_
    obtain ⟨u, hu⟩ : ∃ u, u = u2 := ⟨_, rfl⟩
    rw [← hu] at hS hA9 ⊢
    clear hu
    go_wp2_with (refine st_arrB rfl 186 (.tmp 11) (.tmp 23) rfl B9 TG rfl rfl _ (List.replicate 16 0) hA9 (by rw [hle]; exact Tryz.infoB16) (by rw [hle]; simp) ?_; intro w6 hA6 hO6)
    have hb6 : Below W0.heap.size W0 w6 := below_only hS hS.size hO6 (fun k hk e => by omega)
    have hr1 : Rd w6.drew (· = B9) (some ⟨B9, 0, none⟩) TG := (ArrB.rd hA6).below (Below.refl _ _).drew
    have hr2 : Rd w6.drew T (some ⟨g, o + m, none⟩) TG := htr hb6.drew
    refine region_tailQ 5 (by kernel_rfl) (by kernel_rfl) ?_
    simp only [List.take_succ_cons, List.take_zero, List.drop_succ_cons, List.drop_zero, Act.put]
    repeat (go_big_quiet_step (fail))
    refine wpQuiet_step (fun K hC => ?_)
    go_simp
    refine ⟨.bool true, same_c (· = B9) T B9 0 16 g (o + m) (c - m) 16 TG _ hr1 hr2 hle (by decide), hC _ ?_⟩
    clear hC K
    repeat (go_big_quiet_step (fail))
    refine wpQuiet_nil ?_
    go_upto_region 7 with (fail)
    have hb7 : Below W0.heap.size W0 w6.drew := hb6.drew
    generalize w6.drew = w7 at *
    clear hr1 hr2 hA6 hO6 hA9 hS hb6 hb5
    refine wp_region_tail (S := fun wx => Below W0.heap.size W0 wx) (n := 6) (by kernel_rfl) (by decide) ?_
    try simp only [List.drop_succ_cons, List.drop_zero]
    obtain ⟨v0, hv0⟩ : ∃ u, u = w7.drew := ⟨_, rfl⟩
    have hS : Below W0.heap.size W0 v0 := by rw [hv0]; exact hb7.drew
    rw [← hv0]
    clear hv0
    try simp only [Act.put]
    refine wpAnyT_take (i := 0) (oi := _) (v := (.agg (key.map B8).toArray)) rfl (by kernel_rfl) (fun _ _ _ h => h) (by kernel_rfl) (fun wq hq => run_ldB (I0.out.k.below hq) Tryz.underlying29 Tryz.infoB32 hk rfl) hS ?_
    try simp only [Act.put, List.setIfInBounds_toArray, List.set_cons_zero, List.set_cons_succ]
    refine wpAnyT_take (i := 1) (oi := _) (v := (.agg (nonce.map B8).toArray)) rfl (by kernel_rfl) (fun _ _ _ h => h) (by kernel_rfl) (fun wq hq => run_ldB (I0.out.n.below hq) Tryz.underlying95 Tryz.infoB12 hn rfl) hS ?_
    try simp only [Act.put, List.setIfInBounds_toArray, List.set_cons_zero, List.set_cons_succ]
    refine wpAnyT_take (i := 2) (oi := _) (v := (.slice (some ⟨g, o, none⟩) (m + 16) c)) rfl (by kernel_rfl) (fun _ _ _ h => h) (by kernel_rfl) (fun wq hq => rfl) hS ?_
    try simp only [Act.put, List.setIfInBounds_toArray, List.set_cons_zero, List.set_cons_succ]
    refine wpAnyT_take (i := 3) (oi := _) (v := (.int .i64 (m : Int))) rfl (by kernel_rfl) (fun _ _ _ h => h) (by kernel_rfl) (fun wq hq => rfl) hS ?_
    try simp only [Act.put, List.setIfInBounds_toArray, List.set_cons_zero, List.set_cons_succ]
    refine wpAnyT_take (i := 4) (oi := _) (v := (.slice (some ⟨g, o, none⟩) m c)) rfl (by kernel_rfl) (fun _ _ _ h => h) (by kernel_rfl) (fun wq hq => by go_simp) hS ?_
    try simp only [Act.put, List.setIfInBounds_toArray, List.set_cons_zero, List.set_cons_succ]
    refine wpAnyT_ready (rs := [5]) (by kernel_rfl) (by simp) ?_
    refine AllReadyT.cons rfl (by decide) (fun K hC => ?_) AllReadyT.nil
    go_simp
    go_wp2_with (go_at_call 106; apply Calls.mono; (· (with_reducible refine stream_1 key nonce T ⟨g, o, none⟩ m c CT _ ?_ ?_ ?_ ?_ ?_ ?_); (· exact hk); (· exact hn); (· exact hcr hS); (· exact hct); (· exact H.out.2.2.1); (· have := H.out.2.1; have := H.out.2.2.2.2.2.2; omega)); rintro e v1 ⟨p1, n1, c1, rfl, h1, x1, b1⟩)
    rw [htw] at h1
    have hsz := hS.size
    have hS := hS.trans (b1.mono hS.size)
    refine hC.out _ _ hS ?_
    clear hC K
    try simp only [Act.put, List.setIfInBounds_toArray, List.set_cons_zero, List.set_cons_succ]
    refine wpAnyT_tail (by kernel_rfl) ?_
    go_wp2
    go_ret2
    exact ⟨p1, n1, c1, rfl, h1, fun k hk => (by have := x1 k hk; have := I0.out.b.size; omega), I0.out.b.trans (hS.mono I0.out.b.size)⟩
  · go_simp
    go_wp2
    refine hC.out _ _ (hS.alloc hS.size _) ?_
    clear hC K
    try simp only [Act.put, List.setIfInBounds_toArray, List.set_cons_zero, List.set_cons_succ]
    have hA9 := ArrB.new u0 186 (List.replicate 16 0)
    have hge := hS.size
    have hS := hS.alloc hS.size (.cells ((List.replicate 16 (0 : UInt8)).map B8).toArray 186)
    obtain ⟨B9, hB9⟩ : ∃ B, B = u0.heap.size := ⟨_, rfl⟩
    rw [← hB9] at hA9 hge ⊢
    change wpAnyT _ _ _ _ _ _ _ _ _ _ (u0.alloc (.cells ((List.replicate 16 (0 : UInt8)).map B8).toArray 186))
    generalize u0.alloc (.cells ((List.replicate 16 (0 : UInt8)).map B8).toArray 186) = u2 at *
    clear hB9
    refine wpAnyT_ready (rs := [6]) (by kernel_rfl) (by simp) ?_
    refine AllReadyT.cons rfl (by decide) (fun K hC => ?_) AllReadyT.nil
    go_simp
    go_wp2_with (go_at_call 107; apply Calls.mono; (· (with_reducible refine aTag_c key nonce T (some ⟨g, o, none⟩) m c CT T2 q2 m2 k2 aad _ ?_ ?_ ?_ ?_ ?_ ?_ ?_ ?_ ?_); (· exact hk); (· exact hn); (· exact hcr hS); (· intro h; cases h); (· exact hct); (· exact H.out.2.2.2.1.below (I0.out.b.trans (hS.mono I0.out.b.size))); (· exact H.out.2.2.2.2.1); (· exact H.out.2.2.2.2.2.1); (· rw [hct, ← hm]; exact hl)); rintro e u3 ⟨rfl, hb5⟩)
    have hS := hS.trans (hb5.mono hS.size)
    have hA9 := hA9.below hb5
    refine hC.out _ _ hS ?_
    clear hC K
    try simp only [Act.put, List.setIfInBounds_toArray, List.set_cons_zero, List.set_cons_succ]
    refine wpAnyT_tail (by kernel_rfl) ?_
    obtain ⟨u, hu⟩ : ∃ u, u = u3 := ⟨_, rfl⟩
    rw [← hu] at hS hA9 ⊢
    clear hu
    go_wp2_with (refine st_arrB rfl 186 (.tmp 11) (.tmp 23) rfl B9 TG rfl rfl _ (List.replicate 16 0) hA9 (by rw [hle]; exact Tryz.infoB16) (by rw [hle]; simp) ?_; intro w6 hA6 hO6)
    have hb6 : Below W0.heap.size W0 w6 := below_only hS hS.size hO6 (fun k hk e => by omega)
    have hr1 : Rd w6.drew (· = B9) (some ⟨B9, 0, none⟩) TG := (ArrB.rd hA6).below (Below.refl _ _).drew
    have hr2 : Rd w6.drew T (some ⟨g, o + m, none⟩) TG := htr hb6.drew
    refine region_tailQ 5 (by kernel_rfl) (by kernel_rfl) ?_
    simp only [List.take_succ_cons, List.take_zero, List.drop_succ_cons, List.drop_zero, Act.put]
    repeat (go_big_quiet_step (fail))
    refine wpQuiet_step (fun K hC => ?_)
    go_simp
    refine ⟨.bool true, same_c (· = B9) T B9 0 16 g (o + m) (c - m) 16 TG _ hr1 hr2 hle (by decide), hC _ ?_⟩
    clear hC K
    repeat (go_big_quiet_step (fail))
    refine wpQuiet_nil ?_
    go_upto_region 7 with (fail)
    have hb7 : Below W0.heap.size W0 w6.drew := hb6.drew
    generalize w6.drew = w7 at *
    clear hr1 hr2 hA6 hO6 hA9 hS hb6 hb5
    refine wp_region_tail (S := fun wx => Below W0.heap.size W0 wx) (n := 6) (by kernel_rfl) (by decide) ?_
    try simp only [List.drop_succ_cons, List.drop_zero]
    obtain ⟨v0, hv0⟩ : ∃ u, u = w7.drew := ⟨_, rfl⟩
    have hS : Below W0.heap.size W0 v0 := by rw [hv0]; exact hb7.drew
    rw [← hv0]
    clear hv0
    try simp only [Act.put]
    refine wpAnyT_take (i := 0) (oi := _) (v := (.agg (key.map B8).toArray)) rfl (by kernel_rfl) (fun _ _ _ h => h) (by kernel_rfl) (fun wq hq => run_ldB (I0.out.k.below hq) Tryz.underlying29 Tryz.infoB32 hk rfl) hS ?_
    try simp only [Act.put, List.setIfInBounds_toArray, List.set_cons_zero, List.set_cons_succ]
    refine wpAnyT_take (i := 1) (oi := _) (v := (.agg (nonce.map B8).toArray)) rfl (by kernel_rfl) (fun _ _ _ h => h) (by kernel_rfl) (fun wq hq => run_ldB (I0.out.n.below hq) Tryz.underlying95 Tryz.infoB12 hn rfl) hS ?_
    try simp only [Act.put, List.setIfInBounds_toArray, List.set_cons_zero, List.set_cons_succ]
    refine wpAnyT_take (i := 2) (oi := _) (v := (.slice (some ⟨g, o, none⟩) (m + 16) c)) rfl (by kernel_rfl) (fun _ _ _ h => h) (by kernel_rfl) (fun wq hq => rfl) hS ?_
    try simp only [Act.put, List.setIfInBounds_toArray, List.set_cons_zero, List.set_cons_succ]
    refine wpAnyT_take (i := 3) (oi := _) (v := (.int .i64 (m : Int))) rfl (by kernel_rfl) (fun _ _ _ h => h) (by kernel_rfl) (fun wq hq => rfl) hS ?_
    try simp only [Act.put, List.setIfInBounds_toArray, List.set_cons_zero, List.set_cons_succ]
    refine wpAnyT_take (i := 4) (oi := _) (v := (.slice (some ⟨g, o, none⟩) m c)) rfl (by kernel_rfl) (fun _ _ _ h => h) (by kernel_rfl) (fun wq hq => by go_simp) hS ?_
    try simp only [Act.put, List.setIfInBounds_toArray, List.set_cons_zero, List.set_cons_succ]
    refine wpAnyT_ready (rs := [5]) (by kernel_rfl) (by simp) ?_
    refine AllReadyT.cons rfl (by decide) (fun K hC => ?_) AllReadyT.nil
    go_simp
    go_wp2_with (go_at_call 106; apply Calls.mono; (· (with_reducible refine stream_1 key nonce T ⟨g, o, none⟩ m c CT _ ?_ ?_ ?_ ?_ ?_ ?_); (· exact hk); (· exact hn); (· exact hcr hS); (· exact hct); (· exact H.out.2.2.1); (· have := H.out.2.1; have := H.out.2.2.2.2.2.2; omega)); rintro e v1 ⟨p1, n1, c1, rfl, h1, x1, b1⟩)
    rw [htw] at h1
    have hsz := hS.size
    have hS := hS.trans (b1.mono hS.size)
    refine hC.out _ _ hS ?_
    clear hC K
    try simp only [Act.put, List.setIfInBounds_toArray, List.set_cons_zero, List.set_cons_succ]
    refine wpAnyT_tail (by kernel_rfl) ?_
    go_wp2
    go_ret2
    exact ⟨p1, n1, c1, rfl, h1, fun k hk => (by have := x1 k hk; have := I0.out.b.size; omega), I0.out.b.trans (hS.mono I0.out.b.size)⟩
end Go.Proofs.YtolgaapiedbkfaaGreat
/-
  The contract of sha's Mac. Conditions: a key of no more than 64 bytes, and no more bytes than a million.
-/
namespace Go.Kx
open Go.Proofs.YtolgaapiedbkfaaGreat
def macF (key m : List UInt8) : List UInt8 := sumL (keyedF key 92 ++ sumL (keyedF key 54 ++ m))
end Go.Kx
namespace Go.Proofs.YtolgaapiedbkfaaGreat
open Go.RowKit Go.Kx
set_option linter.unusedVariables false
set_option linter.unusedSimpArgs false
set_option maxRecDepth 100000
theorem keyed_54 (T : Nat → Prop) (q : Option Addr) (m k : Nat) (key : List UInt8) (w : World) (hR : Rd w T q key) (hm : key.length = m) (hk : m ≤ 64) :
    Calls Tryz.prog 108 #[.slice q m k, .int .u8 54] w (NewOB w (keyedF key 54)) := keyed_c T q m k key 54 w hR hm hk
theorem keyed_92 (T : Nat → Prop) (q : Option Addr) (m k : Nat) (key : List UInt8) (w : World) (hR : Rd w T q key) (hm : key.length = m) (hk : m ≤ 64) :
    Calls Tryz.prog 108 #[.slice q m k, .int .u8 92] w (NewOB w (keyedF key 92)) := keyed_c T q m k key 92 w hR hm hk
set_option maxHeartbeats 4000000 in
theorem mac_c (S : Nat → Prop) (p : Option Addr) (n c : Nat) (key : List UInt8) (T : Nat → Prop) (q : Option Addr) (m k : Nat) (b : List UInt8) (w : World) (hR : Rd w S p key) (hn : key.length = n) (hn64 : n ≤ 64)
    (hR2 : Rd w T q b) (hq : q = none → k = 0) (hm : b.length = m) (hl : m ≤ 1000000) :
    Calls Tryz.prog 65 #[.slice p n c, .slice q m k] w (BackR w (.agg ((macF key b).map B8).toArray)) := by
  have H := Lib.hid (And.intro hR (And.intro hn (And.intro hn64 (And.intro hR2 (And.intro hq (And.intro hm hl))))))
  have k1 : ¬ ((64 : Int) < (n : Int)) := by omega
  clear hR hn hR2 hq hm hl
  have hkl : ∀ x, (keyedF key x).length = 64 := fun x => keyK_len key x (by rw [H.out.2.1]; exact H.out.2.2.1) 64
  go_enter Tryz.func65, Tryz.ntmps65
  go_upto_region 1 with (fail)
  have hI : ArrB (w.alloc (.cells ((List.replicate 32 (0 : UInt8)).map B8).toArray 29)) w.heap.size 29 (List.replicate 32 0) ∧ Below w.heap.size w (w.alloc (.cells ((List.replicate 32 (0 : UInt8)).map B8).toArray 29)) := ⟨ArrB.new _ _ _, (Below.refl _ w).alloc (Nat.le_refl _) _⟩
  refine wp_world (fun W => ArrB W w.heap.size 29 (List.replicate 32 0) ∧ Below w.heap.size w W) hI ?_
  clear hI
  intro W0 hI
  have I0 := Lib.hid hI
  clear hI
  go_upto_region 4 with (fail)
  go_upto_region 5 with (first
    | (go_at_call 108; apply Calls.mono; (· (with_reducible refine keyed_54 S p n c key _ ?_ ?_ ?_); (· exact H.out.1.below I0.out.2); (· exact H.out.2.1); (· exact H.out.2.2.1)); rintro e w1 ⟨p1, n1, c1, rfl, h1, x1, b1⟩)
    | (at_builtin; refine wpList_app8 rfl _ _ rfl h1 rfl T q m k b rfl H.out.2.2.2.2.2.1 (H.out.2.2.2.1.below (I0.out.2.trans (b1.mono I0.out.2.size))) H.out.2.2.2.2.1 (by rw [hkl]; have := H.out.2.2.2.2.2; omega) ?_; intro p2 n2 c2 w2 h2 x2 hO2)
    | (go_at_call 71; apply Calls.mono; (· (with_reducible refine sum_c (fun k => owB p2 n2 c2 k) p2 n2 c2 (keyedF key 54 ++ b) _ ?_ ?_ ?_ ?_); (· exact h2.rd); (· exact h2.nilc); (· rw [List.length_append, hkl]; have := H.out.2.2.2.2.2; omega); (· exact h2.len)); rintro e w3 ⟨rfl, b3⟩)
    | (refine st_arrB rfl 29 (.tmp 6) (.tmp 17) rfl w3.heap.size (sumL (keyedF key 54 ++ b)) rfl rfl _ (List.replicate 32 0) (ArrB.new w3 29 (List.replicate 32 0)) (by rw [sumL_len]; exact Tryz.infoB32) (by rw [sumL_len]; simp) ?_; intro w4 hA4 hO4))
  have hOw := Only.of_below (r := fun _ => False) b1
  have hB2 : Below W0.heap.size W0 w2 := below_only b1 b1.size hO2 (fun k hk e => by have := x1 k e; omega)
  have hB3 : Below W0.heap.size W0 w3 := hB2.trans (b3.mono hB2.size)
  have hB4 : Below W0.heap.size W0 w4 := below_only (hB3.alloc hB3.size (.cells ((List.replicate 32 (0 : UInt8)).map B8).toArray 29)) (by rw [World.size_alloc]; have := hB3.size; omega) hO4 (fun k hk e => by have := hB3.size; omega)
  have hS1 := sumL_len (keyedF key 54 ++ b)
  have hMac : macF key b = sumL (keyedF key 92 ++ sumL (keyedF key 54 ++ b)) := rfl
  generalize sumL (keyedF key 54 ++ b) = S1 at *
  have hG := hA4.lt
  have HM := Lib.hid (And.intro hMac (And.intro hS1 hB4))
  have hgeG := hB3.size
  clear hMac hB2 hB3 hB4 hO2 hO4 hOw x1 b1 h1 x2 h2 b3 hS1
  generalize w3.heap.size = G at *
  refine wp_region_tail (S := fun wx => Below w4.heap.size w4 wx) (n := 5) (by kernel_rfl) (by decide) ?_
  try simp only [List.drop_succ_cons, List.drop_zero]
  obtain ⟨u0, hu0⟩ : ∃ u, u = w4.drew := ⟨_, rfl⟩
  have hS : Below w4.heap.size w4 u0 := by rw [hu0]; exact (Below.refl _ _).drew
  rw [← hu0]
  clear hu0
  try simp only [Act.put]
  refine wpAnyT_take (i := 0) (oi := _) (v := (.slice p n c)) rfl (by kernel_rfl) (fun _ _ _ h => h) (by kernel_rfl) (fun wq hq => rfl) hS ?_
  try simp only [Act.put, List.setIfInBounds_toArray, List.set_cons_zero, List.set_cons_succ]
  refine wpAnyT_take (i := 2) (oi := _) (v := (.slice (some ⟨G, 0, none⟩) 32 32)) rfl (by kernel_rfl) (fun _ _ _ h => h) (by kernel_rfl) (fun wq hq => by go_simp) hS ?_
  try simp only [Act.put, List.setIfInBounds_toArray, List.set_cons_zero, List.set_cons_succ]
  refine wpAnyT_ready (rs := [1]) (by kernel_rfl) (by simp) ?_
  refine AllReadyT.cons rfl (by decide) (fun K hC => ?_) AllReadyT.nil
  go_simp
  go_wp2_with (go_at_call 108; apply Calls.mono; (· (with_reducible refine keyed_92 S p n c key _ ?_ ?_ ?_); (· exact H.out.1.below ((I0.out.2.trans (HM.out.2.2.mono I0.out.2.size)).trans (hS.mono (Nat.le_trans I0.out.2.size HM.out.2.2.size)))); (· exact H.out.2.1); (· exact H.out.2.2.1)); rintro e v1 ⟨p5, n5, c5, rfl, h5, x5, b5⟩)
  have hsz0 := hS.size
  have hS := hS.trans (b5.mono hS.size)
  refine hC.out _ _ hS ?_
  clear hC K
  try simp only [Act.put, List.setIfInBounds_toArray, List.set_cons_zero, List.set_cons_succ]
  refine wpAnyT_ready (rs := [3]) (by kernel_rfl) (by simp) ?_
  refine AllReadyT.cons rfl (by decide) (fun K hC => ?_) AllReadyT.nil
  refine step_app8 rfl _ _ rfl h5 rfl (· = G) (some ⟨G, 0, none⟩) 32 32 S1 rfl HM.out.2.1 (ArrB.rd (hA4.below hS)) (fun h => by cases h) (by rw [hkl, HM.out.2.1]; omega) ?_
  intro p6 n6 c6 v2 h6 x6 hO6
  have hsz1 := hS.size
  have hS : Below w4.heap.size w4 v2 := below_only hS hS.size hO6 (fun k hk e => by have := x5 k e; omega)
  refine hC.out _ _ hS ?_
  clear hC K
  try simp only [Act.put, List.setIfInBounds_toArray, List.set_cons_zero, List.set_cons_succ]
  refine wpAnyT_ready (rs := [4]) (by kernel_rfl) (by simp) ?_
  refine AllReadyT.cons rfl (by decide) (fun K hC => ?_) AllReadyT.nil
  go_simp
  go_wp2_with (go_at_call 71; apply Calls.mono; (· (with_reducible refine sum_c (fun k => owB p6 n6 c6 k) p6 n6 c6 (keyedF key 92 ++ S1) _ ?_ ?_ ?_ ?_); (· exact h6.rd); (· exact h6.nilc); (· rw [List.length_append, hkl, HM.out.2.1]; omega); (· exact h6.len)); rintro e v3 ⟨rfl, b7⟩)
  have hS := hS.trans (b7.mono hS.size)
  refine hC.out _ _ hS ?_
  clear hC K
  try simp only [Act.put, List.setIfInBounds_toArray, List.set_cons_zero, List.set_cons_succ]
  refine wpAnyT_tail (by kernel_rfl) ?_
  have hO : ArrB v3 w.heap.size 29 (List.replicate 32 0) := (I0.out.1.below HM.out.2.2).below hS
  have hbz := (I0.out.2.trans (HM.out.2.2.mono I0.out.2.size)).trans (hS.mono (Nat.le_trans I0.out.2.size HM.out.2.2.size))
  have hS2 := sumL_len (keyedF key 92 ++ S1)
  have HM2 := Lib.hid HM.out.1
  generalize sumL (keyedF key 92 ++ S1) = S2 at *
  go_wp2_with (refine st_arrB rfl 29 (.tmp 4) (.tmp 22) rfl w.heap.size S2 rfl rfl _ (List.replicate 32 0) hO (by rw [hS2]; exact Tryz.infoB32) (by rw [hS2]; simp) ?_; intro v4 hA8 hO8)
  refine bodyPost_ret (v := .agg (S2.map B8).toArray) (results_cell_row (P := Tryz.prog) Tryz.results65 _ _ w.heap.size _ _ _ _ rfl hA8 Tryz.underlying29 rfl (by rw [Tryz.infoB32]; simp [hS2])) rfl (And.intro ?_ ?_)
  · rw [HM2.out]
  · exact below_only hbz hbz.size hO8 (fun k hk e => by omega)
end Go.Proofs.YtolgaapiedbkfaaGreat
/-
  The contracts of vault's right, bytes and nonce. Conditions: a note's numbers as vault wants them; four bytes at least.
-/
namespace Go.Kx
open Go.Proofs.YtolgaapiedbkfaaGreat
def noteB (a b c : Nat) : List UInt8 := be a 4 ++ be b 2 ++ be c 4
theorem noteB_len (a b c : Nat) : (noteB a b c).length = 10 := by simp [noteB, be_length]
def nonceF (b : List UInt8) : List UInt8 := List.replicate 8 0 ++ b.take 4
theorem nonceF_len (b : List UInt8) (h : 4 ≤ b.length) : (nonceF b).length = 12 := by simp [nonceF]; omega
end Go.Kx
namespace Go.Proofs.YtolgaapiedbkfaaGreat
open Go.RowKit Go.Kx
set_option linter.unusedVariables false
set_option linter.unusedSimpArgs false
set_option maxRecDepth 100000
/-- A note's cells. -/
def noV (a b c : Nat) : Array Value := #[.int .i64 (a : Int), .int .i64 (b : Int), .int .i64 (c : Int)]
def okNo (a b c : Nat) : Prop := a ≤ 2147483647 ∧ b ≤ 65535 ∧ c ≤ 2147483647
theorem nRight_c (a b c : Nat) (w : World) (h : okNo a b c) : Calls Tryz.prog 61 #[.agg (noV a b c)] w (BoolR w true) := by
  obtain ⟨h1, h2, h3⟩ := h
  have hsz : (noV a b c).size = 3 := rfl
  have g1 : (0 : Int) ≤ (a : Int) := by omega
  have g2 : (0 : Int) ≤ (b : Int) := by omega
  have g3 : (0 : Int) ≤ (c : Int) := by omega
  have l1 : (a : Int) ≤ 2147483647 := by omega
  have l2 : (b : Int) ≤ 65535 := by omega
  have l3 : (c : Int) ≤ 2147483647 := by omega
  go_enter Tryz.func61, Tryz.ntmps61
  go_upto_region 1 with (fail)
  refine wp_world (fun W => Blk W w.heap.size 94 (noV a b c) ∧ Below w.heap.size w W) ⟨Blk.new _ _ _, (Below.refl _ _).alloc (Nat.le_refl _) _⟩ ?_
  intro W hI
  have c0 : W.cell? ⟨w.heap.size, 0, none⟩ = some (.int .i64 (a : Int)) := hI.1.c 0
  have c1 : W.cell? ⟨w.heap.size, 1, none⟩ = some (.int .i64 (b : Int)) := hI.1.c 1
  have c2 : W.cell? ⟨w.heap.size, 2, none⟩ = some (.int .i64 (c : Int)) := hI.1.c 2
  have HI := Lib.hid hI
  clear hI
  go_wp2
  go_ret
  exact ⟨rfl, HI.out.2⟩
theorem nput (p : Option Addr) (m c : Nat) (l : List UInt8) (n W : Nat) (w : World) (h : OB w p m c l) (hl : l.length ≤ 1000) (hW : 1 ≤ W ∧ W ≤ 4) (hn : n < 256 ^ W) :
    Calls Tryz.prog 46 #[.slice p m c, .int .i64 (n : Int), .int .i64 (W : Int)] w (NewOB w (l ++ be n W)) :=
  (put_yes (fun k => owB p m c k) p m c l n W w h.rd h.nilc (by omega) h.len hW hn).mono fun _ _ h => h.new
theorem nput4 (p : Option Addr) (m c : Nat) (l : List UInt8) (n : Nat) (w : World) (h : OB w p m c l) (hl : l.length ≤ 1000) (hn : n ≤ 2147483647) :
    Calls Tryz.prog 46 #[.slice p m c, .int .i64 (n : Int), .int .i64 4] w (NewOB w (l ++ be n 4)) := nput p m c l n 4 w h hl (by decide) (by omega)
theorem nput2 (p : Option Addr) (m c : Nat) (l : List UInt8) (n : Nat) (w : World) (h : OB w p m c l) (hl : l.length ≤ 1000) (hn : n ≤ 65535) :
    Calls Tryz.prog 46 #[.slice p m c, .int .i64 (n : Int), .int .i64 2] w (NewOB w (l ++ be n 2)) := nput p m c l n 2 w h hl (by decide) (by omega)
set_option maxHeartbeats 4000000 in
theorem nBytes_c (a b c : Nat) (w : World) (h : okNo a b c) : Calls Tryz.prog 62 #[.agg (noV a b c)] w (NewOB w (noteB a b c)) := by
  have H := Lib.hid h
  clear h
  have hsz : (noV a b c).size = 3 := rfl
  go_enter Tryz.func62, Tryz.ntmps62
  go_upto_region 1 with (fail)
  refine wp_world (fun W => Blk W w.heap.size 94 (noV a b c) ∧ Below w.heap.size w W) ⟨Blk.new _ _ _, (Below.refl _ _).alloc (Nat.le_refl _) _⟩ ?_
  intro W hI
  have c0 : W.cell? ⟨w.heap.size, 0, none⟩ = some (.int .i64 (a : Int)) := hI.1.c 0
  have HI := Lib.hid hI
  clear hI
  go_upto_region 2 with (go_at_call 46; apply Calls.mono; (· (with_reducible refine nput4 none 0 0 [] a _ ?_ ?_ ?_); (· exact OB.nil _); (· simp); (· exact H.out.1)); rintro e w1 ⟨p1, n1, c1, rfl, h1, x1, b1⟩; rw [List.nil_append] at h1)
  clear c0
  have hB1 := HI.out.1.below b1
  have hbw := HI.out.2.trans (b1.mono HI.out.2.size)
  have hge := HI.out.2.size
  have hblt := HI.out.1.lt
  refine wp_region_tail (S := fun wx => Below w1.heap.size w1 wx) (n := 7) (by kernel_rfl) (by decide) ?_
  try simp only [List.drop_succ_cons, List.drop_zero]
  obtain ⟨u0, hu0⟩ : ∃ u, u = w1.drew := ⟨_, rfl⟩
  have hS : Below w1.heap.size w1 u0 := by rw [hu0]; exact (Below.refl _ _).drew
  rw [← hu0]
  clear hu0
  try simp only [Act.put]
  refine wpAnyT_take (i := 0) (oi := _) (v := (.slice p1 n1 c1)) rfl (by kernel_rfl) (fun _ _ _ h => h) (by kernel_rfl) (fun wq hq => rfl) hS ?_
  try simp only [Act.put, List.setIfInBounds_toArray, List.set_cons_zero, List.set_cons_succ]
  refine wpAnyT_take (i := 1) (oi := _) (v := (.pointer (some ⟨w.heap.size, 1, none⟩))) rfl (by kernel_rfl) (fun _ _ _ h => h) (by kernel_rfl) (fun wq hq => by go_simp) hS ?_
  try simp only [Act.put, List.setIfInBounds_toArray, List.set_cons_zero, List.set_cons_succ]
  refine wpAnyT_take (i := 2) (oi := _) (v := (.int .i64 (b : Int))) rfl (by kernel_rfl) (fun _ _ _ h => h) (by kernel_rfl) (fun wq hq => by have c1 : wq.cell? ⟨w.heap.size, 1, none⟩ = some (.int .i64 (b : Int)) := (hB1.below hq).c 1; go_simp) hS ?_
  try simp only [Act.put, List.setIfInBounds_toArray, List.set_cons_zero, List.set_cons_succ]
  refine wpAnyT_take (i := 4) (oi := _) (v := (.pointer (some ⟨w.heap.size, 2, none⟩))) rfl (by kernel_rfl) (fun _ _ _ h => h) (by kernel_rfl) (fun wq hq => by go_simp) hS ?_
  try simp only [Act.put, List.setIfInBounds_toArray, List.set_cons_zero, List.set_cons_succ]
  refine wpAnyT_take (i := 5) (oi := _) (v := (.int .i64 (c : Int))) rfl (by kernel_rfl) (fun _ _ _ h => h) (by kernel_rfl) (fun wq hq => by have c1 : wq.cell? ⟨w.heap.size, 2, none⟩ = some (.int .i64 (c : Int)) := (hB1.below hq).c 2; go_simp) hS ?_
  try simp only [Act.put, List.setIfInBounds_toArray, List.set_cons_zero, List.set_cons_succ]
  refine wpAnyT_ready (rs := [3]) (by kernel_rfl) (by simp) ?_
  refine AllReadyT.cons rfl (by decide) (fun K hC => ?_) AllReadyT.nil
  go_simp
  go_wp2_with (go_at_call 46; apply Calls.mono; (· (with_reducible refine nput2 p1 n1 c1 (be a 4) b _ ?_ ?_ ?_); (· exact h1.below hS); (· simp [be_length]); (· exact H.out.2.1)); rintro e w2 ⟨p2, n2, c2, rfl, h2, x2, b2⟩)
  have hS2 := hS.trans (b2.mono hS.size)
  refine hC.out _ _ hS2 ?_
  clear hC K
  try simp only [Act.put, List.setIfInBounds_toArray, List.set_cons_zero, List.set_cons_succ]
  refine wpAnyT_ready (rs := [6]) (by kernel_rfl) (by simp) ?_
  refine AllReadyT.cons rfl (by decide) (fun K hC => ?_) AllReadyT.nil
  go_simp
  go_wp2_with (go_at_call 46; apply Calls.mono; (· (with_reducible refine nput4 p2 n2 c2 (be a 4 ++ be b 2) c _ ?_ ?_ ?_); (· exact h2); (· simp [be_length]); (· exact H.out.2.2)); rintro e w3 ⟨p3, n3, c3, rfl, h3, x3, b3⟩)
  have hS3 := hS2.trans (b3.mono hS2.size)
  refine hC.out _ _ hS3 ?_
  clear hC K
  try simp only [Act.put, List.setIfInBounds_toArray, List.set_cons_zero, List.set_cons_succ]
  refine wpAnyT_tail (by kernel_rfl) ?_
  go_wp2
  go_ret
  exact ⟨p3, n3, c3, rfl, h3, fun k hk => (by have := x3 k hk; have := hS2.size; have := b1.size; omega), hbw.trans (hS3.mono hbw.size)⟩
theorem splice8 (b : List UInt8) (h : 4 ≤ b.length) : splice ((List.replicate 12 (0 : UInt8)).map B8) 8 ((b.take 4).map B8) = (nonceF b).map B8 := by
  have h4 : (b.take 4).length = 4 := by rw [List.length_take]; omega
  rw [List.map_replicate]
  unfold splice nonceF
  rw [List.length_map, h4, List.map_append, List.map_replicate]
  simp
set_option maxHeartbeats 4000000 in
theorem nonce_c (S : Nat → Prop) (g o n c : Nat) (b : List UInt8) (w : World) (hR : Rd w S (some ⟨g, o, none⟩) b) (hn : b.length = n) (h4 : 4 ≤ n) (hnc : n ≤ c) :
    Calls Tryz.prog 64 #[.slice (some ⟨g, o, none⟩) n c] w (BackR w (.agg ((nonceF b).map B8).toArray)) := by
  have H := Lib.hid (And.intro hR (And.intro hn (And.intro h4 hnc)))
  have k1 : (4 : Int) ≤ (n : Int) := by omega
  have k2 : (4 : Int) ≤ (c : Int) := by omega
  have k3 : 4 ≤ c := by omega
  clear hR hn
  go_enter Tryz.func64, Tryz.ntmps64
  go_upto_region 2 with (fail)
  have hI : ArrB ((w.alloc (.cells ((List.replicate 12 (0 : UInt8)).map B8).toArray 95)).alloc (.cells ((List.replicate 12 (0 : UInt8)).map B8).toArray 95)) w.heap.size 95 (List.replicate 12 0) ∧ ArrB ((w.alloc (.cells ((List.replicate 12 (0 : UInt8)).map B8).toArray 95)).alloc (.cells ((List.replicate 12 (0 : UInt8)).map B8).toArray 95)) (w.heap.size + 1) 95 (List.replicate 12 0) ∧ Below w.heap.size w ((w.alloc (.cells ((List.replicate 12 (0 : UInt8)).map B8).toArray 95)).alloc (.cells ((List.replicate 12 (0 : UInt8)).map B8).toArray 95)) := by
    have a2 := ArrB.new (w.alloc (.cells ((List.replicate 12 (0 : UInt8)).map B8).toArray 95)) 95 (List.replicate 12 0)
    rw [World.size_alloc] at a2
    exact ⟨(ArrB.new _ _ _).below ((Below.refl _ _).alloc (Nat.le_refl _) _), a2, ((Below.refl _ w).alloc (Nat.le_refl _) _).alloc (by simp) _⟩
  refine wp_world (fun W => ArrB W w.heap.size 95 (List.replicate 12 0) ∧ ArrB W (w.heap.size + 1) 95 (List.replicate 12 0) ∧ Below w.heap.size w W) hI ?_
  clear hI
  intro W hI
  have HI := Lib.hid hI
  clear hI
  refine wp_region_tail (S := fun wx => Below W.heap.size W wx) (n := 3) (by kernel_rfl) (by decide) ?_
  try simp only [List.drop_succ_cons, List.drop_zero]
  obtain ⟨u0, hu0⟩ : ∃ u, u = W.drew := ⟨_, rfl⟩
  have hS : Below W.heap.size W u0 := by rw [hu0]; exact (Below.refl _ _).drew
  rw [← hu0]
  clear hu0
  try simp only [Act.put]
  refine wpAnyT_take (i := 0) (oi := _) (v := (.slice (some ⟨w.heap.size + 1, 8, none⟩) 4 4)) rfl (by kernel_rfl) (fun _ _ _ h => h) (by kernel_rfl) (fun wq hq => by go_simp) hS ?_
  try simp only [Act.put, List.setIfInBounds_toArray, List.set_cons_zero, List.set_cons_succ]
  refine wpAnyT_take (i := 1) (oi := _) (v := (.slice (some ⟨g, o, none⟩) n c)) rfl (by kernel_rfl) (fun _ _ _ h => h) (by kernel_rfl) (fun wq hq => rfl) hS ?_
  try simp only [Act.put, List.setIfInBounds_toArray, List.set_cons_zero, List.set_cons_succ]
  refine wpAnyT_take (i := 2) (oi := _) (v := (.slice (some ⟨g, o, none⟩) 4 c)) rfl (by kernel_rfl) (fun _ _ _ h => h) (by kernel_rfl) (fun wq hq => by go_simp) hS ?_
  try simp only [Act.put, List.setIfInBounds_toArray, List.set_cons_zero, List.set_cons_succ]
  refine wpAnyT_tail (by kernel_rfl) ?_
  simp only [List.getElem_toArray, List.getElem_cons_succ, List.getElem_cons_zero, Act.put, List.setIfInBounds_toArray, List.set_cons_zero, List.set_cons_succ]
  have hA := HI.out.2.1.below hS
  have hr := rd_take ((H.out.1.below HI.out.2.2).below (hS.mono (Nat.le_refl _))) 4
  have hl4 : (b.take 4).length = 4 := by rw [List.length_take, H.out.2.1]; omega
  have hmn : ((b.take 4).map B8).length = Nat.min 4 4 := by rw [List.length_map, hl4]; rfl
  have hft : 8 + ((b.take 4).map B8).length ≤ ((List.replicate 12 (0 : UInt8)).map B8).length := by rw [List.length_map, List.length_map, List.length_replicate, hl4]; omega
  have hbw := HI.out.2.2.trans (hS.mono HI.out.2.2.size)
  have hs8 := splice8 b (by rw [H.out.2.1]; exact h4)
  have hnl := nonceF_len b (by rw [H.out.2.1]; exact h4)
  go_upto_region 3 with (refine wpList_copy_splice rfl (.tmp 4) (.tmp 6) 38 38 rfl 5 Tryz.underlying38 (by kernel_rfl) _ _ _ _ _ _ rfl rfl (w.heap.size + 1) 8 ((List.replicate 12 (0 : UInt8)).map B8) 95 hA ((b.take 4).map B8) hmn (fun hp => ⟨rfl, src8 hr hp⟩) hft (ones8 _) (w.heap.size + 1) u0 (Below.refl _ _) (Nat.le_refl _) ?_; intro w2 hg2 hb2)
  have hA2 : ArrB w2 (w.heap.size + 1) 95 (nonceF b) := by
    have h := hg2.out
    rw [hs8] at h
    exact h
  have hO2 : ArrB w2 w.heap.size 95 (List.replicate 12 0) := (hb2.block w.heap.size (by omega)).trans (HI.out.1.below hS)
  have hbz : Below w.heap.size w w2 := hbw.trans (hb2.mono (by omega))
  have hnl2 : (nonceF b).length = 12 := hnl
  generalize nonceF b = NB at *
  go_wp2_with (first
    | (refine ld_arrB rfl 95 (.tmp 3) rfl (w.heap.size + 1) rfl _ _ hA2 _ _ Tryz.underlying95 (by rw [hnl2]; exact Tryz.infoB12) ?_)
    | (refine st_arrB rfl 95 (.tmp 2) (.tmp 8) rfl w.heap.size NB rfl rfl _ (List.replicate 12 0) hO2 (by rw [hnl2]; exact Tryz.infoB12) (by rw [hnl2]; simp) ?_; intro w4 hA4 hO4))
  refine bodyPost_ret (v := .agg (NB.map B8).toArray) (results_cell_row (P := Tryz.prog) Tryz.results64 _ _ w.heap.size _ _ _ _ rfl hA4 Tryz.underlying95 rfl (by rw [Tryz.infoB12]; simp [hnl2])) rfl (And.intro rfl ?_)
  exact below_only hbz hbz.size hO4 (fun k hk e => by omega)
end Go.Proofs.YtolgaapiedbkfaaGreat
/-
  The contract of vault's Seal. Conditions: a note's numbers as vault wants them; one byte at least and no more than 30000.
-/
namespace Go.Kx
open Go.Proofs.YtolgaapiedbkfaaGreat
def vSealF (key : List UInt8) (a b c : Nat) (tx : List UInt8) : List UInt8 := noteB a b c ++ sealF key (nonceF (noteB a b c)) tx (noteB a b c)
end Go.Kx
namespace Go.Proofs.YtolgaapiedbkfaaGreat
open Go.RowKit Go.Kx
set_option linter.unusedVariables false
set_option linter.unusedSimpArgs false
set_option maxRecDepth 100000
/-- The blocks of Seal. -/
structure VsI (w : World) (key : List UInt8) (a b c : Nat) (W : World) : Prop where
  k : ArrB W w.heap.size 29 key
  n : Blk W (w.heap.size + 1) 94 (noV a b c)
  b : Below w.heap.size w W
theorem VsI.below {w : World} {key : List UInt8} {a b c : Nat} {W W' : World} (h : VsI w key a b c W) (hb : Below W.heap.size W W') : VsI w key a b c W' := ⟨h.k.below hb, h.n.below hb, h.b.trans (hb.mono h.b.size)⟩
theorem VsI.first (w : World) (key : List UInt8) (a b c : Nat) : VsI w key a b c ((w.alloc (.cells (key.map B8).toArray 29)).alloc (.cells (noV a b c) 94)) := by
  have a2 := Blk.new (w.alloc (.cells (key.map B8).toArray 29)) 94 (noV a b c)
  rw [World.size_alloc] at a2
  exact ⟨(ArrB.new w _ key).below ((Below.refl _ _).alloc (Nat.le_refl _) _), a2, ((Below.refl _ w).alloc (Nat.le_refl _) _).alloc (by simp) _⟩
theorem Tryz.infoNo : (Tryz.prog.info? 94).map (·.size) = some 3 := by kernel_rfl
theorem ld_no {ops : Array Oper} {rest : List Oper} {op : Oper} {a : Act} {w : World} {Q : Exit → Act → World → Prop} (hgd : op.guard = none) (x : Operand) (ho : op.op = .load 94 x)
    (g : Nat) (hx : a.eval x = .pointer (some ⟨g, 0, none⟩)) {i j k : Nat} (hg : Blk w g 94 (noV i j k))
    (hK : wpList Tryz.prog ops Q rest (a.put op.dst (.agg (noV i j k))) w) : wpList Tryz.prog ops Q (op :: rest) a w :=
  wpList_load_row hgd 94 x ho g hx _ _ (0, 0) _ hg Tryz.underlying94 rfl Tryz.infoNo hK
set_option maxHeartbeats 8000000 in
theorem vSeal_c (key : List UInt8) (a b c : Nat) (T : Nat → Prop) (ad : Addr) (m k : Nat) (tx : List UInt8) (w : World) (hk : key.length = 32) (hno : okNo a b c) (hR : Rd w T (some ad) tx) (hm : tx.length = m) (h0 : 0 < m) (hl : m ≤ 30000) :
    Calls Tryz.prog 31 #[.agg (key.map B8).toArray, .agg (noV a b c), .slice (some ad) m k] w (OpenR w (vSealF key a b c tx)) := by
  have hkz : ((key.map B8).toArray).size = 32 := by simp [hk]
  have hsz : (noV a b c).size = 3 := rfl
  have H := Lib.hid (And.intro hno (And.intro hR (And.intro hm (And.intro h0 hl))))
  have k1 : ¬ ((30000 : Int) < (m : Int)) := by omega
  clear hno hR hm h0 hl
  go_enter Tryz.func31, Tryz.ntmps31
  go_upto_region 1 with (fail)
  refine wp_world (VsI w key a b c) (VsI.first w key a b c) ?_
  intro W0 hI0
  have I0 := Lib.hid hI0
  clear hI0
  go_upto_region 3 with (first
    | (refine ld_no rfl (.tmp 4) rfl (w.heap.size + 1) rfl I0.out.n ?_)
    | (go_at_call 61; refine (nRight_c a b c _ H.out.1).mono ?_; rintro e w1 ⟨rfl, b1⟩))
  have I1 := Lib.hid (I0.out.below b1)
  clear b1 I0 W0
  go_upto_region 4 with (first
    | (refine ld_no rfl (.tmp 4) rfl (w.heap.size + 1) rfl I1.out.n ?_)
    | (go_at_call 62; refine (nBytes_c a b c _ H.out.1).mono ?_; rintro e w2 ⟨p2, n2, c2, rfl, h2, x2, b2⟩))
  have I2 := Lib.hid (I1.out.below b2)
  have hge : ∀ k, owB p2 n2 c2 k → w.heap.size + 1 < k := fun k hk => by have := x2 k hk; have := I1.out.n.lt; omega
  have hn2 := h2.len
  rw [noteB_len] at hn2
  subst hn2
  clear b2 x2 I1 w1
  obtain ⟨g2, rfl, ho2, hg2⟩ := h2.pos (by decide)
  have hf2 := h2.form.1
  have hNl := nonceF_len (noteB a b c) (by rw [noteB_len]; omega)
  have hSF : vSealF key a b c tx = noteB a b c ++ sealF key (nonceF (noteB a b c)) tx (noteB a b c) := rfl
  refine wp_region_tail (S := fun wx => ArrB wx w.heap.size 29 key) (n := 8) (by kernel_rfl) (by decide) ?_
  try simp only [List.drop_succ_cons, List.drop_zero]
  obtain ⟨u0, hu0⟩ : ∃ u, u = w2.drew := ⟨_, rfl⟩
  have hS : Below w2.heap.size w2 u0 := by rw [hu0]; exact (Below.refl _ _).drew
  rw [← hu0]
  clear hu0
  try simp only [Act.put]
  have hSk := I2.out.k.below hS
  refine wpAnyT_take (i := 0) (oi := _) (v := (.slice (some ⟨g2, 0, none⟩) 10 c2)) rfl (by kernel_rfl) (fun _ _ _ h => h) (by kernel_rfl) (fun wq hq => rfl) hSk ?_
  try simp only [Act.put, List.setIfInBounds_toArray, List.set_cons_zero, List.set_cons_succ]
  refine wpAnyT_take (i := 1) (oi := _) (v := (.agg (key.map B8).toArray)) rfl (by kernel_rfl) (fun _ _ _ h => h) (by kernel_rfl) (fun wq hq => run_ldB hq Tryz.underlying29 Tryz.infoB32 hk rfl) hSk ?_
  try simp only [Act.put, List.setIfInBounds_toArray, List.set_cons_zero, List.set_cons_succ]
  refine wpAnyT_take (i := 2) (oi := _) (v := (.slice (some ⟨g2, 0, none⟩) 10 c2)) rfl (by kernel_rfl) (fun _ _ _ h => h) (by kernel_rfl) (fun wq hq => rfl) hSk ?_
  try simp only [Act.put, List.setIfInBounds_toArray, List.set_cons_zero, List.set_cons_succ]
  refine wpAnyT_take (i := 4) (oi := _) (v := (.slice (some ad) m k)) rfl (by kernel_rfl) (fun _ _ _ h => h) (by kernel_rfl) (fun wq hq => rfl) hSk ?_
  try simp only [Act.put, List.setIfInBounds_toArray, List.set_cons_zero, List.set_cons_succ]
  refine wpAnyT_take (i := 5) (oi := _) (v := (.slice (some ⟨g2, 0, none⟩) 10 c2)) rfl (by kernel_rfl) (fun _ _ _ h => h) (by kernel_rfl) (fun wq hq => rfl) hSk ?_
  try simp only [Act.put, List.setIfInBounds_toArray, List.set_cons_zero, List.set_cons_succ]
  refine wpAnyT_ready (rs := [3]) (by kernel_rfl) (by simp) ?_
  refine AllReadyT.cons rfl (by decide) (fun K hC => ?_) AllReadyT.nil
  go_simp
  go_wp2_with (go_at_call 64; apply Calls.mono; (· (with_reducible refine nonce_c (fun k => owB (some ⟨g2, 0, none⟩) 10 c2 k) g2 0 10 c2 (noteB a b c) _ ?_ ?_ ?_ ?_); (· exact (h2.below hS).rd); (· exact noteB_len _ _ _); (· omega); (· exact hf2)); rintro e w3 ⟨rfl, b3⟩)
  have hS3 := hS.trans (b3.mono hS.size)
  refine hC.out _ _ (I2.out.k.below hS3) ?_
  clear hC K
  try simp only [Act.put, List.setIfInBounds_toArray, List.set_cons_zero, List.set_cons_succ]
  refine wpAnyT_ready (rs := [6]) (by kernel_rfl) (by simp) ?_
  refine AllReadyT.cons rfl (by decide) (fun K hC => ?_) AllReadyT.nil
  go_simp
  go_wp2_with (go_at_call 63; apply Calls.mono; (· (with_reducible refine aSeal_c key (nonceF (noteB a b c)) T ad m k tx (fun k => owB (some ⟨g2, 0, none⟩) 10 c2 k) (some ⟨g2, 0, none⟩) 10 c2 (noteB a b c) _ ?_ ?_ ?_ ?_ ?_ ?_ ?_ ?_ ?_); (· exact hk); (· exact hNl); (· exact H.out.2.1.below (I2.out.b.trans (hS3.mono I2.out.b.size))); (· exact H.out.2.2.1); (· exact H.out.2.2.2.1); (· exact (h2.below hS3).rd); (· intro h; cases h); (· exact noteB_len _ _ _); (· rw [noteB_len]; have := H.out.2.2.1; have := H.out.2.2.2.2; omega)); rintro e w4 ⟨p4, n4, c4, rfl, h4, x4, b4⟩)
  have hS4 := hS3.trans (b4.mono hS3.size)
  refine hC.out _ _ (I2.out.k.below hS4) ?_
  clear hC K
  try simp only [Act.put, List.setIfInBounds_toArray, List.set_cons_zero, List.set_cons_succ]
  refine wpAnyT_ready (rs := [7]) (by kernel_rfl) (by simp) ?_
  refine AllReadyT.cons rfl (by decide) (fun K hC => ?_) AllReadyT.nil
  have hsl : (sealF key (nonceF (noteB a b c)) tx (noteB a b c)).length = m + 16 := by unfold sealF aTagF; rw [List.length_append, strF_len, tagF_len, H.out.2.2.1]
  refine step_app8 rfl _ _ rfl (h2.below hS4) rfl (fun k => owB p4 n4 c4 k) p4 n4 c4 _ rfl h4.len h4.rd h4.nilc (by rw [noteB_len, hsl]; have := H.out.2.2.2.2; omega) ?_
  intro p6 n6 c6 w5 h6 x6 hO6
  have hsz4 := hS4.size
  have hbw := I2.out.b
  have hS5 : Below w.heap.size w w5 := by
    have h := hbw.trans (hS4.mono hbw.size)
    exact below_only h h.size hO6 (fun k hk e => by have := hge k e; omega)
  refine hC.out _ _ ((I2.out.k.below hS4).only hO6 (fun e => by have := hge _ e; omega)) ?_
  clear hC K
  try simp only [Act.put, List.setIfInBounds_toArray, List.set_cons_zero, List.set_cons_succ]
  refine wpAnyT_tail (by kernel_rfl) ?_
  try simp only [List.getElem_toArray, List.getElem_cons_succ, List.getElem_cons_zero, Act.put, List.setIfInBounds_toArray, List.set_cons_zero, List.set_cons_succ]
  have HSF := Lib.hid hSF
  clear hSF
  go_wp2
  go_ret2
  exact ⟨p6, n6, c6, rfl, by rw [HSF.out]; exact h6, fun k hk => (by rcases x6 k hk with h | h; (· have := hge k h; omega); (· have := hbw.size; omega)), hS5⟩
end Go.Proofs.YtolgaapiedbkfaaGreat
/-
  The contract of vault's Read. Conditions: a note's numbers as vault wants them ahead, and as many bytes as vault takes.
-/
namespace Go.Proofs.YtolgaapiedbkfaaGreat
open Go.RowKit Go.Kx
set_option linter.unusedVariables false
set_option linter.unusedSimpArgs false
set_option maxRecDepth 100000
theorem foldl_ben' (n k acc : Nat) : (be n k).foldl (fun n b => n * 256 + b.toNat) acc = acc * 256 ^ k + n % 256 ^ k := by
  induction k generalizing acc with
  | zero => simp [be, Nat.mod_one]
  | succ k ih =>
    simp only [be, List.foldl_cons]
    have h2 : n % 256 ^ (k + 1) = n % 256 ^ k + 256 ^ k * (n / 256 ^ k % 256) := by rw [Nat.pow_succ, Nat.mod_mul]
    rw [ih, UInt8.toNat_ofNat', h2, Nat.pow_succ 256 k]
    have h1 : (acc * 256 + n / 256 ^ k % 2 ^ 8) * 256 ^ k = acc * (256 ^ k * 256) + 256 ^ k * (n / 256 ^ k % 256) := by
      rw [Nat.add_mul, Nat.mul_assoc, Nat.mul_comm 256 (256 ^ k), Nat.mul_comm (n / 256 ^ k % 2 ^ 8)]
    rw [h1]
    omega
theorem beN_be' {n k : Nat} (h : n < 256 ^ k) : beN (be n k) = n := by
  unfold beN
  rw [foldl_ben', Nat.mod_eq_of_lt h]
  omega
/-- A number that was put is read again. -/
def UbR (w : World) (r g x : Nat) (t : List UInt8) (e : Ending) (w' : World) : Prop := e = .returned (.int .i64 (x : Int)) ∧ Cur w' r g t 0 ∧ Only (· = r) w w'
theorem uint_be (r g x W : Nat) (t : List UInt8) (w : World) (hW : 1 ≤ W ∧ W ≤ 4) (hx : x < 256 ^ W) (h : Cur w r g (be x W ++ t) 0) : Calls Tryz.prog 75 #[rp r, .int .i64 (W : Int)] w (UbR w r g x t) := by
  refine (uint_c r g _ 0 (W : Int) w h).mono ?_
  rintro e w' ⟨rfl, h1, h2⟩
  have hwb : wb 0 (W : Int) = 0 := by unfold wb; rw [if_pos (by omega)]
  rw [hwb] at h1 ⊢
  have hl : (be x W).length = W := be_length x W
  have hb : badS (be x W ++ t) 0 (W : Int) = 0 := by unfold badS; rw [if_neg (by omega), if_neg (by rw [List.length_append, hl]; omega)]
  have ho : outS (be x W ++ t) 0 (W : Int) = be x W := by unfold outS; rw [if_pos hb, Int.toNat_natCast, List.take_left' hl]
  have hle : leftS (be x W ++ t) 0 (W : Int) = t := by unfold leftS; rw [if_pos hb, Int.toNat_natCast, List.drop_left' hl]
  rw [hb, hle] at h1
  exact ⟨by rw [ho, beN_be' hx], h1, h2⟩
theorem uint_4 (r g x : Nat) (t : List UInt8) (w : World) (hx : x ≤ 2147483647) (h : Cur w r g (be x 4 ++ t) 0) : Calls Tryz.prog 75 #[rp r, .int .i64 4] w (UbR w r g x t) := uint_be r g x 4 t w (by decide) (by omega) h
theorem uint_2 (r g x : Nat) (t : List UInt8) (w : World) (hx : x ≤ 65535) (h : Cur w r g (be x 2 ++ t) 0) : Calls Tryz.prog 75 #[rp r, .int .i64 2] w (UbR w r g x t) := uint_be r g x 2 t w (by decide) (by omega) h
def NoR (w : World) (a b c : Nat) (e : Ending) (w' : World) : Prop := e = .returned (.tuple #[.agg (noV a b c), .int .i64 0]) ∧ Below w.heap.size w w'
theorem st_no {ops : Array Oper} {rest : List Oper} {op : Oper} {a : Act} {w : World} {Q : Exit → Act → World → Prop} (hgd : op.guard = none) (x y : Operand) (ho : op.op = .store 94 x y)
    (g : Nat) {i j k i' j' k' : Nat} (hx : a.eval x = .pointer (some ⟨g, 0, none⟩)) (hy : a.eval y = .agg (noV i j k)) (hg : Blk w g 94 (noV i' j' k'))
    (hK : ∀ w', Blk w' g 94 (noV i j k) → Only (· = g) w w' → wpList Tryz.prog ops Q rest (a.put op.dst undef) w') : wpList Tryz.prog ops Q (op :: rest) a w :=
  wpList_store_row hgd 94 x y ho g _ hx hy _ _ hg Tryz.infoNo rfl (by simp [noV, Value.oneCell']) (hK _ (by unfold Blk at *; simp [World.setRow, Array.getElem?_modify, hg]) (only_setRow' w g _))
theorem built_no (x y z : Nat) : Tryz.prog.built 94 [(0, .int .i64 (x : Int)), (1, .int .i64 (y : Int)), (2, .int .i64 (z : Int))] = some (noV x y z) := by kernel_rfl
theorem bld_no {ops : Array Oper} {rest : List Oper} {o : Oper} {a : Act} {w : World} {Q : Exit → Act → World → Prop} (hg : o.guard = none) (x y z : Operand) (ho : o.op = .build 94 #[(0, x), (1, y), (2, z)])
    (u v t : Nat) (hx : a.eval x = .int .i64 (u : Int)) (hy : a.eval y = .int .i64 (v : Int)) (hz : a.eval z = .int .i64 (t : Int)) (h : wpList Tryz.prog ops Q rest (a.put o.dst (.agg (noV u v t))) w) : wpList Tryz.prog ops Q (o :: rest) a w :=
  wpList_build_eq hg 94 _ ho (by simp [hx, hy, hz]) (built_no u v t) h
theorem results_ct {P : Program} {fn : Func} (p u : Tmp) {ty : TypeId} (h : fn.results = #[.cell p ty, .tmp u]) (tmps : Array Value) (w : World) (g : Nat) (t : TypeId) (cs : Array Value) (d : TypeDesc) (U : Value)
    (hp : tmps.getD p undef = .pointer (some ⟨g, 0, none⟩)) (hU : tmps.getD u undef = U) (hg : Blk w g t cs)
    (hu : P.underlying ty = some d) (hd : (match d with | .struct _ | .array _ _ => true | _ => false) = true) (hi : (P.info? ty).map (·.size) = some cs.size) :
    (results fn tmps).run P w = .ok (.tuple #[.agg cs, U]) w := by
  subst hU
  have hp' : tmps[p]?.getD undef = .pointer (some ⟨g, 0, none⟩) := by simpa using hp
  simp [results, h, hp', asAddr, run_loadVar_row w g t ty cs (0, 0) d hg hu hd hi]
set_option maxHeartbeats 4000000 in
theorem vRead_c (a b c : Nat) (t : List UInt8) (S : Nat → Prop) (p : Option Addr) (n k : Nat) (w : World) (hno : okNo a b c) (hR : Rd w S p (noteB a b c ++ t)) (hp : p = none → k = 0) (hn : (noteB a b c ++ t).length = n) (h26 : 26 ≤ n) (hm : n ≤ 30026) :
    Calls Tryz.prog 152 #[.slice p n k] w (NoR w a b c) := by
  have H := Lib.hid (And.intro hno (And.intro hR (And.intro hp hn)))
  have hn2 : (noteB a b c ++ t).length ≤ 140737488355328 := by omega
  have k1 : ¬ ((n : Int) < 26) := by omega
  have k2 : ¬ ((30026 : Int) < (n : Int)) := by omega
  clear hno hR hp hn
  have e0 : noteB a b c ++ t = be a 4 ++ (be b 2 ++ (be c 4 ++ t)) := by simp [noteB]
  go_enter Tryz.func152, Tryz.ntmps152
  go_upto_region 1 with (fail)
  refine wp_world (fun W => Blk W w.heap.size 94 (noV 0 0 0) ∧ Below w.heap.size w W) ⟨Blk.new _ _ _, (Below.refl _ _).alloc (Nat.le_refl _) _⟩ ?_
  intro W hI
  have HI := Lib.hid hI
  clear hI
  go_upto_region 6 with (go_at_call 74; refine (new_c S p n k (noteB a b c ++ t) _ (H.out.2.1.below HI.out.2) H.out.2.2.1 hn2 H.out.2.2.2).mono ?_; rintro e w1 ⟨r, g, rfl, hr, hrl, hg, hc, b1⟩)
  rw [e0] at hc
  go_upto_region 7 with (first
    | (go_at_call 75; apply Calls.mono; (· (with_reducible refine uint_4 r g a (be b 2 ++ (be c 4 ++ t)) _ ?_ ?_); (· exact H.out.1.1); (· exact hc)); rintro e w2 ⟨rfl, hc2, o2⟩)
    | (go_at_call 75; apply Calls.mono; (· (with_reducible refine uint_2 r g b (be c 4 ++ t) _ ?_ ?_); (· exact H.out.1.2.1); (· exact hc2)); rintro e w3 ⟨rfl, hc3, o3⟩)
    | (go_at_call 75; apply Calls.mono; (· (with_reducible refine uint_4 r g c t _ ?_ ?_); (· exact H.out.1.2.2); (· exact hc3)); rintro e w4 ⟨rfl, hc4, o4⟩)
    | (refine bld_no rfl (.tmp 19) (.tmp 21) (.tmp 23) rfl a b c rfl rfl rfl ?_)
    | (refine st_no rfl (.tmp 5) (.tmp 24) rfl w4.heap.size rfl rfl (Blk.new w4 94 (noV 0 0 0)) ?_; intro w5 hA5 hO5))
  have b4 : Below W.heap.size W w4 := by
    have h2 := below_only b1 b1.size o2 (fun k hk e => by omega)
    have h3 := below_only h2 h2.size o3 (fun k hk e => by omega)
    exact below_only h3 h3.size o4 (fun k hk e => by omega)
  have b5 : Below W.heap.size W w5 := below_only (b4.alloc b4.size (.cells (noV 0 0 0) 94)) (by rw [World.size_alloc]; have := b4.size; omega) hO5 (fun k hk e => by have := b4.size; omega)
  have hO := HI.out.1.below b5
  have hbw := HI.out.2.trans (b5.mono HI.out.2.size)
  clear hc hc2 hc3 hc4 o2 o3 o4 hO5 b1
  generalize w4.heap.size = G at *
  clear b4 b5
  go_wp2_with (first
    | (refine ld_no rfl (.tmp 5) rfl G rfl hA5 ?_)
    | (go_at_call 61; apply Calls.mono; (· (with_reducible refine nRight_c a b c _ ?_); (· exact H.out.1)); rintro e w6 ⟨rfl, b6⟩; have hA5 := hA5.below b6; have hO := hO.below b6; have hbw := hbw.trans (b6.mono hbw.size))
    | (refine st_no rfl (.tmp 2) (.tmp 29) rfl w.heap.size rfl rfl hO ?_; intro w7 hA7 hO7))
  refine bodyPost_ret (v := .tuple #[.agg (noV a b c), .int .i64 0]) (results_ct (P := Tryz.prog) 2 3 Tryz.results152 _ _ w.heap.size _ _ _ (.int .i64 0) rfl rfl hA7 Tryz.underlying94 rfl Tryz.infoNo) rfl (And.intro rfl ?_)
  exact below_only hbw hbw.size hO7 (fun k hk e => by omega)
end Go.Proofs.YtolgaapiedbkfaaGreat
