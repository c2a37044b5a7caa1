/-
  The walk of HelloReads: it returns true, and changes nothing that lay there. Conditions: no slice of what comes in is too great for a machine.
-/
import Derived.Test.YtegmimnhkohaoaaZRpB
import Derived.Test.YtegmimnhkohaoaaZg7
import Derived.Test.YtegmimnhkohaoaaYHelRS
import Derived.Test.YtegmimnhkohaoaaZLawHR
import Derived.Test.YtegmimnhkohaoaaYOrdU
namespace Go.Proofs.Ytegmimnhkohaoaa
open Go.RowKit Go.Kx
set_option linter.unusedVariables false
set_option linter.unusedSimpArgs false
set_option maxRecDepth 100000
attribute [local go_sem ↓] exec_ldSv exec_ldRv exec_ldCl exec_ldRc
attribute [local go_sem] stLoad_at

/-- Some bytes, of 3000 at most. -/
def FewR (w : World) (e : Ending) (w' : World) : Prop := ∃ (l : List UInt8) (p : Option Addr) (n c : Nat) (ok : Bool), e = .returned (.tuple #[.slice p n c, .bool ok]) ∧ l.length = n ∧ n ≤ 3000 ∧ Rd w' (fun _ => True) p l ∧ (p = none → c = 0) ∧ Below w.heap.size w w'
theorem rputCL_le {s : Cl} (h : rokC s = true) (hR : s.R.length = 32) : (rputCL s).length ≤ 3000 := by
  have h1 := eC_le h
  have h2 := (rokC_of h).1.o1
  have h3 := all16_len (rokC_of h).1.o3
  unfold rputCL
  simp only [List.length_append, vecL_len, lstL_len, hR, List.length_cons, List.length_nil]
  omega
theorem rputCL_few {s : Cl} {w w' : World} {e : Ending} (hR : s.R.length = 32) (h : RPutCR w s e w') : FewR w e w' := by
  obtain ⟨⟨_, rfl⟩ | ⟨h1, p, n, c, rfl, h2, _⟩, hb⟩ := h
  · exact ⟨[], none, 0, 0, false, rfl, rfl, by omega, Rd.nil _ _ _, fun _ => rfl, hb⟩
  · exact ⟨_, p, n, c, true, rfl, h2.len, by rw [← h2.len]; exact rputCL_le h1 hR, h2.rd.mono (fun _ _ _ => trivial), h2.nilc, hb⟩
theorem rputL_few {s : Sv} {w w' : World} {e : Ending} (hR : s.R.length = 32) (h : RPutSR w s e w') : FewR w e w' := by
  obtain ⟨⟨_, rfl⟩ | ⟨h1, g, n, c, rfl, h2, _, h4⟩, hb⟩ := h
  · exact ⟨[], none, 0, 0, false, rfl, rfl, by omega, Rd.nil _ _ _, fun _ => rfl, hb⟩
  · have hle : (rputL s).length ≤ 1000 := by
      have h1 := rokS_le h1
      have h2 := e4S_le h1.2
      have h3 := rndS_len hR
      unfold rputL
      simp only [List.length_append, vecL_len, u16L_len, h3, List.length_cons, List.length_nil]
      omega
    exact ⟨_, some ⟨g, 0, none⟩, n, c, true, rfl, h2, by omega, h4.rd.mono (fun _ _ _ => trivial), (fun h => by cases h), hb⟩
/-- What stays while the greetings are put and bent. -/
structure HDI (w : World) (s : Cl) (z : Z10) (t : Sv) (y : S3) (l0 l1 : Int) (wx : World) : Prop where
  c : Blk wx w.heap.size 48 (clV s z)
  v : Blk wx (w.heap.size + 1) 27 (svV t y)
  a : Blk wx (w.heap.size + 2) 72 #[.int .i64 l0, .int .i64 l1]
  bel : Below w.heap.size w wx
theorem HDI.below {w wx wy : World} {s : Cl} {z : Z10} {t : Sv} {y : S3} {l0 l1 : Int} (h : HDI w s z t y l0 l1 wx) (hb : Below wx.heap.size wx wy) : HDI w s z t y l0 l1 wy := ⟨h.c.below hb, h.v.below hb, h.a.below hb, h.bel.trans (hb.mono h.bel.size)⟩
theorem HDI.new (w : World) (s : Cl) (z : Z10) (t : Sv) (y : S3) (l0 l1 : Int) : HDI w s z t y l0 l1 (((w.alloc (.cells (clV s z) 48)).alloc (.cells (svV t y) 27)).alloc (.cells #[.int .i64 l0, .int .i64 l1] 72)) := by
  have h1 : Below w.heap.size w (w.alloc (.cells (clV s z) 48)) := (Below.refl _ _).alloc (Nat.le_refl _) _
  have b1 := Blk.new w 48 (clV s z)
  have z1 := World.size_alloc w (.cells (clV s z) 48)
  generalize w.alloc (.cells (clV s z) 48) = w1 at *
  have h2 : Below w1.heap.size w1 (w1.alloc (.cells (svV t y) 27)) := (Below.refl _ _).alloc (Nat.le_refl _) _
  have b2 := Blk.new w1 27 (svV t y)
  have z2 := World.size_alloc w1 (.cells (svV t y) 27)
  generalize w1.alloc (.cells (svV t y) 27) = w2 at *
  have h3 : Below w2.heap.size w2 (w2.alloc (.cells #[.int .i64 l0, .int .i64 l1] 72)) := (Below.refl _ _).alloc (Nat.le_refl _) _
  have b3 := Blk.new w2 72 #[.int .i64 l0, .int .i64 l1]
  rw [z1] at b2 z2
  rw [z2] at b3
  exact ⟨(b1.below h2).below h3, b2.below h3, b3, (h1.trans (h2.mono h1.size)).trans (h3.mono (by omega))⟩
theorem HRJ.trans' {w0 w wx : World} {x : Cl} {s : Sv} {z1 z2 : Z10} {z3 z4 : S3} {q1 q2 q3 q4 : Nat} (h : HRJ w x s z1 z2 z3 z4 q1 q2 q3 q4 wx) (hb : Below w0.heap.size w0 w) : Below w0.heap.size w0 wx := hb.trans (h.bel.mono hb.size)
set_option maxHeartbeats 20000000 in
theorem helloReads_c (s : Cl) (z : Z10) (t : Sv) (y : S3) (l0 l1 : Int) (w : World) (h : IsCl w (· < w.heap.size) s z) (hf : FitR s) (h' : IsSv w w.heap.size t y) :
    Calls Try.prog 7 #[.agg (clV s z), .agg (svV t y), .agg #[.int .i64 l0, .int .i64 l1]] w (BoolR w true) := by
  have hlen := h.len
  have hlen2 := h'.len
  have H := Lib.hid (And.intro h (And.intro hf h'))
  clear h hf h'
  go_enter Try.func7, Try.ntmps7
  have hz1 := run_zeroCl
  have hz2 := run_zeroRc
  have hz3 := run_zeroSv
  have hz4 := run_zeroRv
  go_upto_region 1 with (fail)
  have hnew := HDI.new w s z t y l0 l1
  generalize ((w.alloc (.cells (clV s z) 48)).alloc (.cells (svV t y) 27)).alloc (.cells #[.int .i64 l0, .int .i64 l1] 72) = w0 at *
  have I0 := Lib.hid hnew
  clear hnew
  go_upto_region 2 with (first
    | (refine wpList_load_mid rfl 48 (.tmp 3) rfl w.heap.size 0 rfl (clV s z).toList _ I0.out.c.range Try.underlying48 rfl (by rw [Array.length_toList, clV_size _ _ hlen]; exact Try.infoRc) ?_; rw [Array.toArray_toList])
    | (go_at_call 23; refine (rputClient_c s z w.heap.size _ (H.out.1.below I0.out.bel) I0.out.bel.size H.out.2.1).mono ?_; intro en w1 hp; obtain ⟨la, pa, na, ca, ok1, rfl, h1, h2, h3, h4, h5⟩ := rputCL_few hlen hp; have A1 := Lib.hid (And.intro h1 (And.intro h2 (And.intro h3 h4))); have I1 := Lib.hid (I0.out.below h5); clear h1 h2 h3 h4 h5 hp))
  go_upto_region 3 with (first
    | (refine wpList_load_mid rfl 27 (.tmp 4) rfl (w.heap.size + 1) 0 rfl (svV t y).toList _ I1.out.v.range Try.underlying27 rfl (by rw [Array.length_toList, svV_sz _ _ hlen2]; exact Try.infoRv) ?_; rw [Array.toArray_toList])
    | (go_at_call 11; refine (rputServer_c t y w.heap.size _ (H.out.2.2.below I1.out.bel) I1.out.bel.size).mono ?_; intro en w2 hp; obtain ⟨lb, pb, nb, cb, ok2, rfl, h1, h2, h3, h4, h5⟩ := rputL_few hlen2 hp; have A2 := Lib.hid (And.intro (A1.out.2.2.1.below h5) (And.intro h1 (And.intro h2 (And.intro h3 h4)))); have I2 := Lib.hid (I1.out.below h5); clear h1 h2 h3 h4 h5 hp))
  have hK := I2.out.below ((Below.refl _ _).drew)
  have hRa := A2.out.1.below ((Below.refl w2.heap.size w2).drew)
  have hRb := A2.out.2.2.2.1.below ((Below.refl w2.heap.size w2).drew)
  go_region_held3 (fun w' => w'.cell? ⟨w.heap.size + 2, 0, none⟩ = some (.int .i64 l0) ∧ w'.cell? ⟨w.heap.size + 2, 1, none⟩ = some (.int .i64 l1)) (exact ⟨hK.a.c 0, hK.a.c 1⟩) (first
    | (go_at_call 25; have hq := D1; refine (bend_c _ pb nb cb lb l0 l1 _ hRb A2.out.2.2.2.2 A2.out.2.1 (by have := A2.out.2.2.1; omega)).mono ?_; rintro en w4 ⟨b, p2, n2, c2, rfl, h1, h2, h3, h4, h5, h6, h7, h8⟩; have D2 := Lib.hid (And.intro h1 (And.intro (by have := A2.out.2.2.1; omega : n2 ≤ 6000) (And.intro h3 (And.intro h4 (And.intro h5 (And.intro h6 h7)))))); have hd3 : ∀ x, p1 = some x → x.spot = none ∧ x.block < w4.heap.size := fun x hx => ⟨(D1.out.2.2.2.2.2.2 x hx).1, Nat.lt_of_lt_of_le (D1.out.2.2.2.2.2.2 x hx).2 h8.size⟩; have D3 := Lib.hid (And.intro (D1.out.2.2.2.2.1.below h8) hd3); clear hd3; have hK2 := hK.below h8; clear hK h1 h2 h3 h4 h5 h6 h7 h8 hRb; have hK := hK2; clear hK2)
    | (go_at_call 25; refine (bend_c _ pa na ca la l0 l1 _ hRa A1.out.2.2.2 A1.out.1 (by have := A1.out.2.1; omega)).mono ?_; rintro en w3 ⟨a, p1, n1, c1, rfl, h1, h2, h3, h4, h5, h6, h7, h8⟩; have D1 := Lib.hid (And.intro h1 (And.intro (by have := A1.out.2.1; omega : n1 ≤ 6000) (And.intro h3 (And.intro h4 (And.intro h5 (And.intro h6 h7)))))); have hK2 := hK.below h8; have hRb2 := hRb.below h8; clear hK h1 h2 h3 h4 h5 h6 h7 h8 hRa hRb; have hK := hK2; have hRb := hRb2; clear hK2 hRb2))
  have hwb := hK.bel
  have hfew := getC_few a
  have hce : rgetC a = getC a := (getC_eq a).symm
  have hse : rgetS b = getS b := (getS_eq b).symm
  obtain ⟨yc, hyc⟩ : ∃ yc, yc = getC a := ⟨_, rfl⟩
  obtain ⟨ys, hys⟩ : ∃ ys, ys = getS b := ⟨_, rfl⟩
  rw [← hyc] at hfew hce
  rw [← hys] at hse
  obtain ⟨x, e⟩ := yc
  obtain ⟨v, f⟩ := ys
  have HE := Lib.hid (And.intro hce (And.intro hse (And.intro hyc.symm hys.symm)))
  have HF := Lib.hid hfew
  have HA := Lib.hid (And.intro D3.out.1 (And.intro D1.out.2.2.2.2.2.1 (And.intro D3.out.2 (And.intro D1.out.2.2.1 (And.intro D1.out.2.2.2.1 (And.intro D1.out.2.1 D1.out.1))))))
  have HBv := Lib.hid (And.intro D2.out.2.2.2.2.1 (And.intro D2.out.2.2.2.2.2.1 (And.intro D2.out.2.2.2.2.2.2 (And.intro D2.out.2.2.1 (And.intro D2.out.2.2.2.1 (And.intro D2.out.2.1 D2.out.1))))))
  have HWB := Lib.hid hwb
  clear hce hse hyc hys hfew hwb hK D1 D2 D3 A1 A2 I0 I1 I2 H
  go_upto_region 9 with (first
    | (go_at_call 18; refine (getClient_c _ p1 n1 c1 a _ HA.out.1 HA.out.2.1 (by have h1 := HA.out.2.2.2.2.2.1; have h2 := HA.out.2.2.2.2.2.2; omega) HA.out.2.2.2.2.2.2).mono ?_; rw [HE.out.2.2.1]; rintro en w5 ⟨z1, rfl, hi, hb⟩; have I1 := Lib.hid (And.intro hi hb); clear hi hb)
    | (refine st_blk rfl 56 (.tmp 11) (.tmp 40) rfl w5.heap.size (clV x z1) rfl rfl 56 (clV clZ z10) (Blk.new w5 _ _) (by rw [clV_size _ _ I1.out.1.len]; exact Try.infoCl) (by rw [clV_size _ _ rfl, clV_size _ _ I1.out.1.len]) (clV_ones _ _) ?_; intro w6 hb2 ho2; have B2 := fresh_below ho2; have I2 := Lib.hid (And.intro (I1.out.2.trans (B2.mono I1.out.2.size)) (ClX.fresh rfl I1.out.1 hb2 B2)); clear hb2 ho2 B2)
    | (go_at_call 19; refine (rgetClient_c _ p1 n1 c1 a _ (HA.out.1.only (Only.of_below (r := fun _ => False) I2.out.1) (fun _ _ h => h)) HA.out.2.1 (fun x hx => ⟨(HA.out.2.2.1 x hx).1, by have h1 := (HA.out.2.2.1 x hx).2; have h3 := (I2.out.1).size; omega⟩) HA.out.2.2.2.1 HA.out.2.2.2.2.1 (by have h1 := HA.out.2.2.2.2.2.1; have h2 := HA.out.2.2.2.2.2.2; omega) HA.out.2.2.2.2.2.2).mono ?_; rw [HE.out.1]; rintro en w7 ⟨z2, rfl, hi, hb⟩; have I3 := Lib.hid (And.intro hi hb); clear hi hb)
    | (refine st_blk rfl 48 (.tmp 13) (.tmp 45) rfl w7.heap.size (clV x z2) rfl rfl 48 (clV clZ z10) (Blk.new w7 _ _) (by rw [clV_size _ _ I3.out.1.len]; exact Try.infoRc) (by rw [clV_size _ _ rfl, clV_size _ _ I3.out.1.len]) (clV_ones _ _) ?_; intro w8 hb4 ho4; have B4 := fresh_below ho4; have C4 := I3.out.2.trans (B4.mono I3.out.2.size); have I4 := Lib.hid (And.intro (I2.out.1.trans (C4.mono I2.out.1.size)) (And.intro (I2.out.2.below C4) (ClX.fresh rfl I3.out.1 hb4 B4))); clear hb4 ho4 B4 C4)
    | (go_at_call 13; refine (getServer_c _ p2 n2 c2 b _ (HBv.out.1.only (Only.of_below (r := fun _ => False) I4.out.1) (fun _ _ h => h)) HBv.out.2.1 (by have h1 := HBv.out.2.2.2.2.2.1; have h2 := HBv.out.2.2.2.2.2.2; omega) HBv.out.2.2.2.2.2.2).mono ?_; rw [HE.out.2.2.2]; rintro en w9 ⟨z3, rfl, hi, hb⟩; have I5 := Lib.hid (And.intro hi hb); clear hi hb)
    | (refine st_blk rfl 33 (.tmp 15) (.tmp 50) rfl w9.heap.size (svV v z3) rfl rfl 33 (svV svZ z0) (Blk.new w9 _ _) (by rw [svV_size' _ _ I5.out.1.len]; exact Try.infoSv) (by rw [svV_size' _ _ rfl, svV_size' _ _ I5.out.1.len]) (svV_ones _ _) ?_; intro w10 hb6 ho6; have B6 := fresh_below ho6; have C6 := I5.out.2.trans (B6.mono I5.out.2.size); have I6 := Lib.hid (And.intro (I4.out.1.trans (C6.mono I4.out.1.size)) (And.intro (I4.out.2.1.below C6) (And.intro (I4.out.2.2.below C6) (SvX.fresh rfl I5.out.1 hb6 B6)))); clear hb6 ho6 B6 C6)
    | (go_at_call 20; refine (rgetServer_c _ p2 n2 c2 b _ (HBv.out.1.only (Only.of_below (r := fun _ => False) I6.out.1) (fun _ _ h => h)) HBv.out.2.1 (fun x hx => ⟨(HBv.out.2.2.1 x hx).1, by have h1 := (HBv.out.2.2.1 x hx).2; have h3 := (I6.out.1).size; omega⟩) HBv.out.2.2.2.1 HBv.out.2.2.2.2.1 (by have h1 := HBv.out.2.2.2.2.2.1; have h2 := HBv.out.2.2.2.2.2.2; omega) HBv.out.2.2.2.2.2.2).mono ?_; rw [HE.out.2.1]; rintro en w11 ⟨z4, rfl, hi, hb⟩; have I7 := Lib.hid (And.intro hi hb); clear hi hb)
    | (refine st_blk rfl 27 (.tmp 17) (.tmp 55) rfl w11.heap.size (svV v z4) rfl rfl 27 (svV svZ z0) (Blk.new w11 _ _) (by rw [svV_size' _ _ I7.out.1.len]; exact Try.infoRv) (by rw [svV_size' _ _ rfl, svV_size' _ _ I7.out.1.len]) (svV_ones _ _) ?_; intro w12 hb8 ho8; have B8' := fresh_below ho8; have C8 := I7.out.2.trans (B8'.mono I7.out.2.size); have J0 := Lib.hid (show HRJ w4 x v z1 z2 z3 z4 w5.heap.size w7.heap.size w9.heap.size w11.heap.size w12 from ⟨I6.out.2.1.below C8, I6.out.2.2.1.below C8, I6.out.2.2.2.below C8, SvX.fresh rfl I7.out.1 hb8 B8', I6.out.1.trans (C8.mono I6.out.1.size)⟩); clear hb8 ho8 B8' C8)
    | (go_at_call 26; refine (cut_c _ p1 n1 c1 a (x, e) _ HE.out.2.2.1 (HA.out.1.only (Only.of_below (r := fun _ => False) J0.out.bel) (fun _ _ h => h)) HA.out.2.1 (by have h1 := HA.out.2.2.2.2.2.1; have h2 := HA.out.2.2.2.2.2.2; omega) HA.out.2.2.2.2.2.2 ⟨HF.out.1, HF.out.2.1⟩).mono ?_; intro en w13 hcut; have hct : ∃ k i, en = .returned (.tuple #[.int .i64 k, .int .i64 i]) ∧ (e ≠ 0 → i = e) := (by rcases hcut.1 with ⟨h1, h2⟩ | ⟨h1, _, h2⟩ | ⟨h1, _, h2⟩; exact ⟨_, _, h2, fun _ => rfl⟩; exact ⟨_, _, h2, fun h => absurd h1 h⟩; exact ⟨_, _, h2, fun h => absurd h1 h⟩); obtain ⟨ck, ci, rfl, hci⟩ := hct; have J1 := Lib.hid (J0.out.below hcut.2); have HCI := Lib.hid hci; clear hcut hci))
  clear I1 I2 I3 I4 I5 I6 I7 HA HBv hz1 hz2 hz3 hz4 HE J0
  generalize w5.heap.size = q1 at *
  generalize w7.heap.size = q2 at *
  generalize w9.heap.size = q3 at *
  generalize w11.heap.size = q4 at *
  have hfew := HF.out
  clear HF
  have hJ := J1.out.below ((Below.refl _ _).drew)
  have hs1 : (clV x z1).size = 42 := clV_size _ _ hJ.b1.2.len
  have hs2 : (clV x z2).size = 42 := clV_size _ _ hJ.b1.2.len
  have hs3 : (svV v z3).size = 40 := svV_sz _ _ hJ.b3.2.len
  have hs4 : (svV v z4).size = 40 := svV_sz _ _ hJ.b3.2.len
  by_cases he : e = 0
  · subst he
    clear HCI
    have HS := Lib.hid (fun (u : World) (hJ : HRJ w4 x v z1 z2 z3 z4 q1 q2 q3 q4 u) => (show (u.heap[q1]? = some (.cells (clV x z1) 56 (0, 0)) ∧ u.heap[q2]? = some (.cells (clV x z2) 48 (0, 0))) ∧ (u.heap[q3]? = some (.cells (svV v z3) 33 (0, 0)) ∧ u.heap[q4]? = some (.cells (svV v z4) 27 (0, 0))) from ⟨⟨hJ.b1.1, hJ.b2.1⟩, ⟨hJ.b3.1, hJ.b4.1⟩⟩))
    go_upto_region 9 with (fail)
    refine wp_region_tail (S := fun w' => (w'.heap[q1]? = some (.cells (clV x z1) 56 (0, 0)) ∧ w'.heap[q2]? = some (.cells (clV x z2) 48 (0, 0))) ∧ (w'.heap[q3]? = some (.cells (svV v z3) 33 (0, 0)) ∧ w'.heap[q4]? = some (.cells (svV v z4) 27 (0, 0)))) (n := 32) (by kernel_rfl) (by decide) ?_
    try simp only [List.drop_succ_cons, List.drop_zero]
    refine wpAnyT_ready (rs := [0]) (by kernel_rfl) (by simp) ?_
    refine AllReadyT.cons rfl (by decide) (fun K hK => ?_) AllReadyT.nil
    go_simp
    go_wp2_with (go_at_call 12; refine (greets_c _).mono ?_; rintro en w14 ⟨rfl, hb⟩; have hJ2 := hJ.below hb; clear hJ; have hJ := hJ2; clear hJ2 hb)
    refine hK.out _ _ (HS.out _ hJ) ?_
    clear hK K
    try simp only [Act.put, List.setIfInBounds_toArray, List.set_cons_zero, List.set_cons_succ]
    refine wpAnyT_take (i := 1) (oi := _) (v := .bool true) rfl (by kernel_rfl) (fun _ _ _ h => h) (by kernel_rfl) (by intro wq hSw; (try dsimp only at hSw); go_simp) (HS.out _ hJ) ?_
    try simp only [Act.put, List.setIfInBounds_toArray, List.set_cons_zero, List.set_cons_succ]
    refine wpAnyT_take (i := 2) (oi := _) (v := .int .i64 0) rfl (by kernel_rfl) (fun _ _ _ h => h) (by kernel_rfl) (by intro wq hSw; (try dsimp only at hSw); go_simp) (HS.out _ hJ) ?_
    try simp only [Act.put, List.setIfInBounds_toArray, List.set_cons_zero, List.set_cons_succ]
    refine wpAnyT_take (i := 3) (oi := _) (v := .int .i64 0) rfl (by kernel_rfl) (fun _ _ _ h => h) (by kernel_rfl) (by intro wq hSw; (try dsimp only at hSw); go_simp) (HS.out _ hJ) ?_
    try simp only [Act.put, List.setIfInBounds_toArray, List.set_cons_zero, List.set_cons_succ]
    refine wpAnyT_take (i := 4) (oi := _) (v := .bool true) rfl (by kernel_rfl) (fun _ _ _ h => h) (by kernel_rfl) (by intro wq hSw; (try dsimp only at hSw); go_simp) (HS.out _ hJ) ?_
    try simp only [Act.put, List.setIfInBounds_toArray, List.set_cons_zero, List.set_cons_succ]
    refine wpAnyT_take (i := 5) (oi := _) (v := .bool true) rfl (by kernel_rfl) (fun _ _ _ h => h) (by kernel_rfl) (by intro wq hSw; (try dsimp only at hSw); go_simp) (HS.out _ hJ) ?_
    try simp only [Act.put, List.setIfInBounds_toArray, List.set_cons_zero, List.set_cons_succ]
    refine wpAnyT_take (i := 6) (oi := _) (v := .bool true) rfl (by kernel_rfl) (fun _ _ _ h => h) (by kernel_rfl) (by intro wq hSw; (try dsimp only at hSw); go_simp) (HS.out _ hJ) ?_
    try simp only [Act.put, List.setIfInBounds_toArray, List.set_cons_zero, List.set_cons_succ]
    refine wpAnyT_take (i := 7) (oi := _) (v := .agg (clV x z1)) rfl (by kernel_rfl) (fun _ _ _ h => h) (by kernel_rfl) (by intro wq hSw; (try dsimp only at hSw); refine (exec_ldCl _ _ _ _ _ _ _ _).trans ?_; go_simp) (HS.out _ hJ) ?_
    try simp only [Act.put, List.setIfInBounds_toArray, List.set_cons_zero, List.set_cons_succ]
    refine wpAnyT_take (i := 9) (oi := _) (v := .agg (clV x z2)) rfl (by kernel_rfl) (fun _ _ _ h => h) (by kernel_rfl) (by intro wq hSw; (try dsimp only at hSw); refine (exec_ldRc _ _ _ _ _ _ _ _).trans ?_; go_simp) (HS.out _ hJ) ?_
    try simp only [Act.put, List.setIfInBounds_toArray, List.set_cons_zero, List.set_cons_succ]
    refine wpAnyT_ready (rs := [8]) (by kernel_rfl) (by simp) ?_
    refine AllReadyT.cons rfl (by decide) (fun K hK => ?_) AllReadyT.nil
    go_simp
    go_wp2_with (go_at_call 22; refine (from_cl x z1 _ _ hJ.b1.2 (Nat.le_refl _) (by have := hJ.b1.2.s6.1; have := hfew.2.2; omega) (by have := hJ.b1.2.s9.1; have := hfew.2.1; omega)).mono ?_; rintro en w15 ⟨p6, c6, p9, c9, rfl, hi, hb⟩; have hF := Lib.hid hi; have hJ2 := hJ.below hb; clear hJ; have hJ := hJ2; clear hJ2 hb hi)
    refine hK.out _ _ (HS.out _ hJ) ?_
    clear hK K
    try simp only [Act.put, List.setIfInBounds_toArray, List.set_cons_zero, List.set_cons_succ]
    refine wpAnyT_ready (rs := [10]) (by kernel_rfl) (by simp) ?_
    refine AllReadyT.cons rfl (by decide) (fun K hK => ?_) AllReadyT.nil
    go_simp
    go_wp2_with (go_at_call 21; refine (sameClient_c x _ z2 _ hF.out hJ.b2.2 hfew.1).mono ?_; rintro en w16 ⟨rfl, hb⟩; have hJ2 := hJ.below hb; clear hJ; have hJ := hJ2; clear hJ2 hb hF)
    refine hK.out _ _ (HS.out _ hJ) ?_
    clear hK K
    try simp only [Act.put, List.setIfInBounds_toArray, List.set_cons_zero, List.set_cons_succ]
    refine wpAnyT_take (i := 11) (oi := _) (v := .bool true) rfl (by kernel_rfl) (fun _ _ _ h => h) (by kernel_rfl) (by intro wq hSw; (try dsimp only at hSw); go_simp) (HS.out _ hJ) ?_
    try simp only [Act.put, List.setIfInBounds_toArray, List.set_cons_zero, List.set_cons_succ]
    refine wpAnyT_take (i := 12) (oi := _) (v := .bool true) rfl (by kernel_rfl) (fun _ _ _ h => h) (by kernel_rfl) (by intro wq hSw; (try dsimp only at hSw); go_simp) (HS.out _ hJ) ?_
    try simp only [Act.put, List.setIfInBounds_toArray, List.set_cons_zero, List.set_cons_succ]
    refine wpAnyT_take (i := 13) (oi := _) (v := .int .i64 f) rfl (by kernel_rfl) (fun _ _ _ h => h) (by kernel_rfl) (by intro wq hSw; (try dsimp only at hSw); go_simp) (HS.out _ hJ) ?_
    try simp only [Act.put, List.setIfInBounds_toArray, List.set_cons_zero, List.set_cons_succ]
    refine wpAnyT_take (i := 14) (oi := _) (v := .int .i64 f) rfl (by kernel_rfl) (fun _ _ _ h => h) (by kernel_rfl) (by intro wq hSw; (try dsimp only at hSw); go_simp) (HS.out _ hJ) ?_
    try simp only [Act.put, List.setIfInBounds_toArray, List.set_cons_zero, List.set_cons_succ]
    refine wpAnyT_take (i := 15) (oi := _) (v := .bool true) rfl (by kernel_rfl) (fun _ _ _ h => h) (by kernel_rfl) (by intro wq hSw; (try dsimp only at hSw); go_simp) (HS.out _ hJ) ?_
    try simp only [Act.put, List.setIfInBounds_toArray, List.set_cons_zero, List.set_cons_succ]
    refine wpAnyT_take (i := 16) (oi := _) (v := .bool true) rfl (by kernel_rfl) (fun _ _ _ h => h) (by kernel_rfl) (by intro wq hSw; (try dsimp only at hSw); go_simp) (HS.out _ hJ) ?_
    try simp only [Act.put, List.setIfInBounds_toArray, List.set_cons_zero, List.set_cons_succ]
    refine wpAnyT_take (i := 17) (oi := _) (v := .bool true) rfl (by kernel_rfl) (fun _ _ _ h => h) (by kernel_rfl) (by intro wq hSw; (try dsimp only at hSw); go_simp) (HS.out _ hJ) ?_
    try simp only [Act.put, List.setIfInBounds_toArray, List.set_cons_zero, List.set_cons_succ]
    refine wpAnyT_take (i := 18) (oi := _) (v := .agg (svV v z3)) rfl (by kernel_rfl) (fun _ _ _ h => h) (by kernel_rfl) (by intro wq hSw; (try dsimp only at hSw); refine (exec_ldSv _ _ _ _ _ _ _ _).trans ?_; go_simp) (HS.out _ hJ) ?_
    try simp only [Act.put, List.setIfInBounds_toArray, List.set_cons_zero, List.set_cons_succ]
    refine wpAnyT_take (i := 20) (oi := _) (v := .agg (svV v z4)) rfl (by kernel_rfl) (fun _ _ _ h => h) (by kernel_rfl) (by intro wq hSw; (try dsimp only at hSw); refine (exec_ldRv _ _ _ _ _ _ _ _).trans ?_; go_simp) (HS.out _ hJ) ?_
    try simp only [Act.put, List.setIfInBounds_toArray, List.set_cons_zero, List.set_cons_succ]
    refine wpAnyT_ready (rs := [19]) (by kernel_rfl) (by simp) ?_
    refine AllReadyT.cons rfl (by decide) (fun K hK => ?_) AllReadyT.nil
    go_simp
    go_wp2_with (go_at_call 15; refine (from_c v z3 _ _ _ hJ.b3.2).mono ?_; rintro en w17 ⟨rfl, hb⟩; have hJ2 := hJ.below hb; clear hJ; have hJ := hJ2; clear hJ2 hb)
    refine hK.out _ _ (HS.out _ hJ) ?_
    clear hK K
    try simp only [Act.put, List.setIfInBounds_toArray, List.set_cons_zero, List.set_cons_succ]
    refine wpAnyT_ready (rs := [21]) (by kernel_rfl) (by simp) ?_
    refine AllReadyT.cons rfl (by decide) (fun K hK => ?_) AllReadyT.nil
    go_simp
    go_wp2_with (go_at_call 14; refine (sameServer_c v z3 z4 _ _ _ hJ.b3.2 hJ.b4.2).mono ?_; rintro en w18 ⟨rfl, hb⟩; have hJ2 := hJ.below hb; clear hJ; have hJ := hJ2; clear hJ2 hb)
    refine hK.out _ _ (HS.out _ hJ) ?_
    clear hK K
    try simp only [Act.put, List.setIfInBounds_toArray, List.set_cons_zero, List.set_cons_succ]
    refine wpAnyT_take (i := 22) (oi := _) (v := .bool true) rfl (by kernel_rfl) (fun _ _ _ h => h) (by kernel_rfl) (by intro wq hSw; (try dsimp only at hSw); go_simp) (HS.out _ hJ) ?_
    try simp only [Act.put, List.setIfInBounds_toArray, List.set_cons_zero, List.set_cons_succ]
    refine wpAnyT_take (i := 23) (oi := _) (v := .bool true) rfl (by kernel_rfl) (fun _ _ _ h => h) (by kernel_rfl) (by intro wq hSw; (try dsimp only at hSw); go_simp) (HS.out _ hJ) ?_
    try simp only [Act.put, List.setIfInBounds_toArray, List.set_cons_zero, List.set_cons_succ]
    refine wpAnyT_take (i := 24) (oi := _) (v := .int .i64 0) rfl (by kernel_rfl) (fun _ _ _ h => h) (by kernel_rfl) (by intro wq hSw; (try dsimp only at hSw); go_simp) (HS.out _ hJ) ?_
    try simp only [Act.put, List.setIfInBounds_toArray, List.set_cons_zero, List.set_cons_succ]
    refine wpAnyT_take (i := 25) (oi := _) (v := .bool true) rfl (by kernel_rfl) (fun _ _ _ h => h) (by kernel_rfl) (by intro wq hSw; (try dsimp only at hSw); go_simp) (HS.out _ hJ) ?_
    try simp only [Act.put, List.setIfInBounds_toArray, List.set_cons_zero, List.set_cons_succ]
    refine wpAnyT_take (i := 26) (oi := _) (v := .bool true) rfl (by kernel_rfl) (fun _ _ _ h => h) (by kernel_rfl) (by intro wq hSw; (try dsimp only at hSw); go_simp) (HS.out _ hJ) ?_
    try simp only [Act.put, List.setIfInBounds_toArray, List.set_cons_zero, List.set_cons_succ]
    refine wpAnyT_skip (i := 27) (oi := _) rfl (by kernel_rfl) (fun _ _ _ h => h) (by kernel_rfl) (HS.out _ hJ) ?_
    try simp only [Act.put, List.setIfInBounds_toArray, List.set_cons_zero, List.set_cons_succ]
    refine wpAnyT_skip (i := 28) (oi := _) rfl (by kernel_rfl) (fun _ _ _ h => h) (by kernel_rfl) (HS.out _ hJ) ?_
    try simp only [Act.put, List.setIfInBounds_toArray, List.set_cons_zero, List.set_cons_succ]
    refine wpAnyT_skip (i := 29) (oi := _) rfl (by kernel_rfl) (fun _ _ _ h => h) (by kernel_rfl) (HS.out _ hJ) ?_
    try simp only [Act.put, List.setIfInBounds_toArray, List.set_cons_zero, List.set_cons_succ]
    refine wpAnyT_take (i := 30) (oi := _) (v := .bool true) rfl (by kernel_rfl) (fun _ _ _ h => h) (by kernel_rfl) (by intro wq hSw; (try dsimp only at hSw); go_simp) (HS.out _ hJ) ?_
    try simp only [Act.put, List.setIfInBounds_toArray, List.set_cons_zero, List.set_cons_succ]
    refine wpAnyT_take (i := 31) (oi := _) (v := .bool true) rfl (by kernel_rfl) (fun _ _ _ h => h) (by kernel_rfl) (by intro wq hSw; (try dsimp only at hSw); go_simp) (HS.out _ hJ) ?_
    try simp only [Act.put, List.setIfInBounds_toArray, List.set_cons_zero, List.set_cons_succ]
    refine wpAnyT_tail (by kernel_rfl) ?_
    all_goals go_wp2
    all_goals go_ret
    all_goals exact ⟨rfl, hJ.trans' HWB.out⟩
  · have hci := HCI.out he
    subst hci
    have hd : (ci == 0) = false := by simp; exact he
    clear HCI
    go_region_held3 (fun w' => (w'.heap[q1]? = some (.cells (clV x z1) 56 (0, 0)) ∧ w'.heap[q2]? = some (.cells (clV x z2) 48 (0, 0))) ∧ (w'.heap[q3]? = some (.cells (svV v z3) 33 (0, 0)) ∧ w'.heap[q4]? = some (.cells (svV v z4) 27 (0, 0)))) (first | exact ⟨⟨hJ.b1.1, hJ.b2.1⟩, ⟨hJ.b3.1, hJ.b4.1⟩⟩ | exact ⟨⟨J1.out.b1.1, J1.out.b2.1⟩, ⟨J1.out.b3.1, J1.out.b4.1⟩⟩) (first
      | (go_at_call 14; refine (sameServer_c v z3 z4 _ _ _ hJ.b3.2 hJ.b4.2).mono ?_; rintro en w18 ⟨rfl, hb⟩; have hJ2 := hJ.below hb; clear hJ; have hJ := hJ2; clear hJ2 hb)
      | (go_at_call 15; refine (from_c v z3 _ _ _ hJ.b3.2).mono ?_; rintro en w17 ⟨rfl, hb⟩; have hJ2 := hJ.below hb; clear hJ; have hJ := hJ2; clear hJ2 hb)
      | (go_at_call 21; refine (sameClient_c x _ z2 _ hF.out hJ.b2.2 hfew.1).mono ?_; rintro en w16 ⟨rfl, hb⟩; have hJ2 := hJ.below hb; clear hJ; have hJ := hJ2; clear hJ2 hb hF)
      | (go_at_call 22; refine (from_cl x z1 _ _ hJ.b1.2 (Nat.le_refl _) (by have := hJ.b1.2.s6.1; have := hfew.2.2; omega) (by have := hJ.b1.2.s9.1; have := hfew.2.1; omega)).mono ?_; rintro en w15 ⟨p6, c6, p9, c9, rfl, hi, hb⟩; have hF := Lib.hid hi; have hJ2 := hJ.below hb; clear hJ; have hJ := hJ2; clear hJ2 hb hi)
      | (go_at_call 12; refine (greets_c _).mono ?_; rintro en w14 ⟨rfl, hb⟩; have hJ2 := hJ.below hb; clear hJ; have hJ := hJ2; clear hJ2 hb))
    all_goals go_wp2
    all_goals go_ret
    all_goals exact ⟨rfl, hJ.trans' HWB.out⟩
end Go.Proofs.Ytegmimnhkohaoaa
