/-
  The walk of HelloServers: it returns true, and changes nothing that lay there. No condition.
-/
import Derived.Test.YtegmimnhkohaoaaHelZ
import Derived.Test.YtegmimnhkohaoaaHelRS
namespace Go.Proofs.Ytegmimnhkohaoaa
open Go.RowKit Go.Kx
set_option linter.unusedVariables false
set_option linter.unusedSimpArgs false
attribute [local go_sem ↓] exec_ldSv exec_ldRv
attribute [local go_sem] stLoad_at

theorem run_nil (w : World) : (convert 23 9 (.slice none 0 0)).run Try.prog w = .ok (.string ⟨#[]⟩) w := run_str (S := fun _ => True) (c := 0) (Rd.nil w _ none) rfl
theorem SvN.only {w w' : World} {S q : Nat → Prop} {s : Sv} {z : S3} (h : SvN w S s z) (ho : Only q w w') (hq : ∀ k, S k → ¬ q k) : SvN w' S s z := ⟨h.len, h.s1.only ho hq, h.s2.only ho hq, h.s3.only ho hq⟩
theorem SvN.below {w w' : World} {S : Nat → Prop} {s : Sv} {z : S3} (h : SvN w S s z) (hb : Below w.heap.size w w') : SvN w' S s z := h.only (Only.of_below (r := fun _ => False) hb) (fun _ _ h => h)
theorem SvN.mono {w : World} {S T : Nat → Prop} {s : Sv} {z : S3} (h : SvN w S s z) (hT : ∀ k, k < w.heap.size → S k → T k) : SvN w T s z := ⟨h.len, h.s1.mono hT, h.s2.mono hT, h.s3.mono hT⟩
/-- What stands ahead of the comparison. -/
structure HSJ (w : World) (M : Nat) (s : Sv) (z : S3) (q : Nat) (z7 : S3) (wx : World) : Prop where
  b : Blk wx w.heap.size 27 (svV (backS s) z)
  i : IsSv wx M (backS s) z
  b7 : Blk wx q 33 (svV (backS s) z7)
  i7 : SvN wx (fun k => w.heap.size < k ∧ k < q) (backS s) z7
  bel : Below w.heap.size w wx
  lt : w.heap.size < q
theorem HSJ.below {w wx wy : World} {M q : Nat} {s : Sv} {z z7 : S3} (h : HSJ w M s z q z7 wx) (hb : Below wx.heap.size wx wy) : HSJ w M s z q z7 wy :=
  ⟨h.b.below hb, h.i.below hb, h.b7.below hb, h.i7.below hb, h.bel.trans (hb.mono h.bel.size), h.lt⟩
theorem backS_len {s : Sv} (h : s.R.length = 32) : (backS s).R.length = 32 := by unfold backS; split; exact List.length_replicate; exact h

set_option maxHeartbeats 20000000 in
set_option maxRecDepth 100000 in
theorem helloServers_c (s : Sv) (z : S3) (M : Nat) (w : World) (h : IsSv w M s z) (hM : M ≤ w.heap.size) : Calls Try.prog 3 #[.agg (svV s z)] w (BoolR w true) := by
  have hB := Blk.new w 27 (svV s z)
  have hb0 : Below w.heap.size w (w.alloc (.cells (svV s z) 27)) := (Below.refl _ _).alloc (Nat.le_refl _) _
  have hI0 : RI w M s z (w.alloc (.cells (svV s z) 27)) := ⟨hB, h.below hb0, hb0⟩
  have hlen := h.len
  have hput := putS_is s
  have hback := fun hk => getS_back s hlen hk
  obtain ⟨ok, hok⟩ : ∃ b, b = rokS s := ⟨_, rfl⟩
  rw [← hok] at hput hback
  have HOK := Lib.hid hok
  have HP := Lib.hid hput
  have HBK := Lib.hid hback
  clear hB hb0 h hput hback hok
  go_enter Try.func3, Try.ntmps3
  go_upto_region 1 with (fail)
  generalize w.alloc (.cells (svV s z) 27) = w0 at *
  have I0 := Lib.hid hI0
  have hlt := hI0.lt
  clear hI0
  have hsz : (svV s z).size = 40 := svV_sz s z hlen
  have hld : ∀ wx, RI w M s z wx → wx.rangeAt w.heap.size 0 (svV s z).toList := fun wx hx => hx.b.range
  have HLD := Lib.hid hld
  have HSZ := Lib.hid hsz
  clear hld hsz
  cases ok
  · have hbad := (HP.out.2 rfl)
    have HBD := Lib.hid hbad
    clear hbad
    go_wp2_with (first
      | (refine wpList_load_mid rfl 27 (.tmp 1) rfl w.heap.size 0 rfl (svV s z).toList _ (HLD.out _ I1.out) Try.underlying27 rfl (by rw [Array.length_toList, HSZ.out]; exact Try.infoRv) ?_; rw [Array.toArray_toList])
      | (refine wpList_load_mid rfl 27 (.tmp 1) rfl w.heap.size 0 rfl (svV s z).toList _ (HLD.out _ I0.out) Try.underlying27 rfl (by rw [Array.length_toList, HSZ.out]; exact Try.infoRv) ?_; rw [Array.toArray_toList])
      | (go_at_call 10; refine (to_c s z M _ _ I0.out.i).mono ?_; rintro e w1 ⟨rfl, b1⟩; have Ia := Lib.hid (I0.out.below b1); clear b1)
      | (go_at_call 9; refine (putServer_c s z M _ Ia.out.i (by have := Ia.out.bel.size; omega)).mono ?_; rintro e w2 ⟨⟨_, rfl⟩ | ⟨hh, _⟩, hb⟩; (rotate_left; (· rw [HBD.out] at hh; cases hh)); have I1 := Lib.hid (Ia.out.below hb); clear hb)
      | (go_at_call 11; refine (rputServer_c s z M _ I1.out.i (by have := I1.out.bel.size; omega)).mono ?_; rintro e w3 ⟨⟨_, rfl⟩ | ⟨hh, _⟩, hb⟩; (rotate_left; (· rw [← HOK.out] at hh; cases hh)); have I2 := Lib.hid (I1.out.below hb); clear hb)
      | (go_at_call 12; refine (greets_c _).mono ?_; rintro e w4 ⟨rfl, hb⟩; have I3 := Lib.hid (I2.out.below hb); have q0 := run_nil w4; clear hb))
    all_goals go_ret
    all_goals exact ⟨rfl, I3.out.bel⟩
  · have hgood := (HP.out.1 rfl)
    have hgb := HBK.out rfl
    have hle : (rputL s).length ≤ 1000 := by
      have h1 := rokS_le HOK.out.symm
      have h2 := e4S_le h1.2
      have h3 := rndS_len hlen
      unfold rputL
      simp only [List.length_append, vecL_len, u16L_len, h3, List.length_cons, List.length_nil]
      omega
    have HGD := Lib.hid (And.intro hgood (And.intro hgb hle))
    clear hgood hgb hle
    have hz := run_zeroSv
    go_upto_region 8 with (first
      | (refine wpList_load_mid rfl 27 (.tmp 1) rfl w.heap.size 0 rfl (svV s z).toList _ (HLD.out _ I1.out) Try.underlying27 rfl (by rw [Array.length_toList, HSZ.out]; exact Try.infoRv) ?_; rw [Array.toArray_toList])
      | (refine wpList_load_mid rfl 27 (.tmp 1) rfl w.heap.size 0 rfl (svV s z).toList _ (HLD.out _ I0.out) Try.underlying27 rfl (by rw [Array.length_toList, HSZ.out]; exact Try.infoRv) ?_; rw [Array.toArray_toList])
      | (go_at_call 10; refine (to_c s z M _ _ I0.out.i).mono ?_; rintro e w1 ⟨rfl, b1⟩; have Ia := Lib.hid (I0.out.below b1); clear b1)
      | (go_at_call 9; refine (putServer_c s z M _ Ia.out.i (by have := Ia.out.bel.size; omega)).mono ?_; rw [HGD.out.1]; rintro e w2 ⟨⟨hh, _⟩ | ⟨_, g, p, n, c, rfl, hn, hg, hO⟩, hb⟩; (· cases hh); have I1 := Lib.hid (Ia.out.below hb); have O1 := Lib.hid (And.intro hn hO); clear hb hn hO)
      | (go_at_call 11; refine (rputServer_c s z M _ I1.out.i (by have := I1.out.bel.size; omega)).mono ?_; rintro e w3 ⟨⟨hh, _⟩ | ⟨_, g', n', c', rfl, hn, hg', hO⟩, hb⟩; (· rw [← HOK.out] at hh; cases hh); have I2 := Lib.hid (I1.out.below hb); have O2 := Lib.hid (And.intro hn (And.intro hO (Own.keep O1.out.2 hb))); clear hb hn hO)
      | (go_at_call 12; refine (greets_c _).mono ?_; rintro e w4 ⟨rfl, hb⟩; have I3 := Lib.hid (I2.out.below hb); have O3 := Lib.hid (Own.keep O2.out.2.2 hb); have q1 := run_str (c := c) (Own.keep O2.out.2.2 hb).rd O1.out.1; have q2 := run_str (c := c') (Own.keep O2.out.2.1 hb).rd O2.out.1; clear hb)
      | (go_at_call 13; refine (getServer_c (· = g) p n c (rputL s) _ O3.out.rd (by obtain ⟨p', c', he, _, _, _, hp, _⟩ := O3.out.form; cases he; exact hp) (by have := HGD.out.2.2; omega) O1.out.1).mono ?_; rw [HGD.out.2.1]; rintro e w5 ⟨z7, rfl, hv, hb⟩; have I4 := Lib.hid (And.intro (I3.out.below hb) (And.intro (hv.mono (T := fun k => w.heap.size < k ∧ k < w5.heap.size) (fun k hk h => by have := I3.out.lt; omega)) (Blk.new w5 33 (svV svZ z0)))); clear hb hv)
      | (refine st_blk rfl 33 (.tmp 7) (.tmp 42) rfl w5.heap.size (svV (backS s) z7) rfl rfl 33 (svV svZ z0) I4.out.2.2 (by rw [svV_size' _ _ (backS_len hlen)]; exact Try.infoSv) (by rw [svV_size' _ _ rfl, svV_size' _ _ (backS_len hlen)]) (svV_ones _ _) ?_; intro w6 hb6 ho6; have H6 := Lib.hid (And.intro hb6 ho6); clear hb6 ho6))
    clear hz q1 q2
    have hlt5 := I4.out.1.lt
    have hB5 : Below w5.heap.size w5 (w5.alloc (.cells (svV svZ z0) 33)) := (Below.refl _ _).alloc (Nat.le_refl _) _
    have hI6 : RI w M s z w6 := (I4.out.1.below hB5).only H6.out.2 hM (by intro k hk e; omega)
    have hv6 : SvN w6 (fun k => w.heap.size < k ∧ k < w5.heap.size) (backS s) z7 := (I4.out.2.1.below hB5).only H6.out.2 (by intro k hk e; omega)
    have c37 := hI6.b.c37 hI6.i
    have H7 := Lib.hid (And.intro hI6 (And.intro hv6 H6.out.1))
    clear hI6 hv6 hB5
    generalize w5.heap.size = q at *
    obtain ⟨re, hre⟩ : ∃ re, re = s.retry := ⟨_, rfl⟩
    rw [← hre] at c37
    have HRE := Lib.hid hre
    clear hre
    go_upto_if 45 with (fail)
    go_cut [46] (fun v46 wx => HSJ w M s z q z7 wx)
    case first =>
      cases re
      · have hb : backS s = s := by unfold backS; rw [← HRE.out, if_neg Bool.false_ne_true]
        have HB := Lib.hid hb
        clear hb
        go_wp2
        go_meet
        exact ⟨by rw [HB.out]; exact H7.out.1.b, by rw [HB.out]; exact H7.out.1.i, H7.out.2.2, H7.out.2.1, H7.out.1.bel, hlt5⟩
      · have hb : backS s = { s with R := List.replicate 32 0 } := by unfold backS; rw [← HRE.out, if_pos rfl]
        have HB := Lib.hid hb
        clear hb
        go_wp2_with (first
          | (refine wpList_build_eq rfl 22 _ rfl (C := ((List.replicate 32 (0 : UInt8)).map B8).toArray) rfl Try.built_z32 ?_)
          | (refine st_part rfl 22 (.tmp 47) (.tmp 46) rfl w.heap.size 0 ((List.replicate 32 (0 : UInt8)).map B8) rfl rfl 27 _ H7.out.1.b Try.infoB32 (by rw [svV_size' _ _ hlen, List.length_map, List.length_replicate]; omega) (oneCell_map _) ?_; intro w8 hb8 ho8))
        go_meet
        rw [splice_rnd _ _ _ hlen (by rw [List.length_replicate]), ← HB.out] at hb8
        have hq : ¬ q = w.heap.size := by omega
        have hi := H7.out.1.i.only ho8 (by intro k hk e; omega)
        have h7 := H7.out.2.2.only ho8 hq
        have hi7 := H7.out.2.1.only ho8 (by intro k hk e; omega)
        exact ⟨hb8, by rw [HB.out]; exact ⟨List.length_replicate, hi.s1, hi.s2, hi.s3⟩, h7, hi7, below_only H7.out.1.bel H7.out.1.bel.size ho8 (by intro k hk e; omega), hlt5⟩
    case rest =>
      have J0 := Lib.hid hcut
      clear hcut
      have hsz7 : (svV (backS s) z7).size = 40 := svV_sz _ _ (backS_len hlen)
      have hszb : (svV (backS s) z).size = 40 := svV_sz _ _ (backS_len hlen)
      have J1 := Lib.hid (J0.out.below ((Below.refl _ _).drew))
      have hJ := J1.out
      go_upto_region 10 with (fail)
      go_region_held3 (fun w' => w'.heap[q]? = some (.cells (svV (backS s) z7) 33 (0, 0)) ∧ w'.heap[w.heap.size]? = some (.cells (svV (backS s) z) 27 (0, 0))) (first | exact ⟨hJ.b7, hJ.b⟩ | exact ⟨J0.out.b7, J0.out.b⟩) (first
        | (go_at_call 15; refine (from_c (backS s) z7 _ _ _ hJ.i7.is).mono ?_; rintro e w9 ⟨rfl, hb⟩; have hJ2 := hJ.below hb; clear hJ; have hJ := hJ2; clear hJ2 hb)
        | (go_at_call 14; refine (sameServer_c (backS s) z7 z _ _ _ hJ.i7.is hJ.i).mono ?_; rintro e w10 ⟨rfl, hb⟩; have hJ2 := hJ.below hb; clear hJ; have hJ := hJ2; clear hJ2 hb))
      all_goals go_wp2
      all_goals go_ret
      all_goals exact ⟨rfl, hJ.bel⟩
end Go.Proofs.Ytegmimnhkohaoaa
