/-
  The walk of HelloClients: it returns true, and changes nothing that lay there. Conditions: few and short slices (what the second form bounds).
-/
import Derived.Test.YtegmimnhkohaoaaZRpB
import Derived.Test.YtegmimnhkohaoaaZg8
import Derived.Test.YtegmimnhkohaoaaZLawHR
import Derived.Test.YtegmimnhkohaoaaZHelM
namespace Go.Proofs.Ytegmimnhkohaoaa
open Go.RowKit Go.Kx
set_option linter.unusedVariables false
set_option linter.unusedSimpArgs false
set_option maxRecDepth 100000
attribute [local go_sem ↓] exec_ldSv exec_ldRv exec_ldCl exec_ldRc
attribute [local go_sem] stLoad_at

theorem run_nilC (w : World) : (convert 23 9 (.slice none 0 0)).run Try.prog w = .ok (.string ⟨#[]⟩) w := run_str (S := fun _ => True) (c := 0) (Rd.nil w _ none) rfl
/-- What stands ahead of the comparison. -/
structure HCJ (w : World) (s : Cl) (z : Z10) (q : Nat) (z1 : Z10) (wx : World) : Prop where
  k : RK w w.heap.size s z wx
  b1 : ClX wx q 56 s z1
theorem HCJ.below {w wx wy : World} {s : Cl} {z z1 : Z10} {q : Nat} (h : HCJ w s z q z1 wx) (hb : Below wx.heap.size wx wy) : HCJ w s z q z1 wy := ⟨h.k.below hb, h.b1.below hb⟩
set_option maxHeartbeats 20000000 in
theorem helloClients_c (s : Cl) (z : Z10) (w : World) (h : IsCl w (· < w.heap.size) s z) (hf : FitR s) (hf2 : Fit s) (h6 : z.n6 ≤ 4398046511103) (h9 : z.n9 ≤ 4398046511103) : Calls Try.prog 8 #[.agg (clV s z)] w (BoolR w true) := by
  have hB := Blk.new w 48 (clV s z)
  have hb0 : Below w.heap.size w (w.alloc (.cells (clV s z) 48)) := (Below.refl _ _).alloc (Nat.le_refl _) _
  have hI0 : RK w w.heap.size s z (w.alloc (.cells (clV s z) 48)) := ⟨hB, h.below hb0, hb0, Nat.le_refl _⟩
  have hlen := h.len
  have hput := putC_is s
  have hback := fun hk => getC_back s hlen hk
  obtain ⟨ok, hok⟩ : ∃ b, b = rokC s := ⟨_, rfl⟩
  rw [← hok] at hput hback
  have HOK := Lib.hid hok
  have HP := Lib.hid hput
  have HBK := Lib.hid hback
  have HF := Lib.hid (And.intro hf (And.intro hf2 (And.intro h6 h9)))
  have hz1 := run_zeroCl
  clear hB hb0 h hput hback hok hf hf2 h6 h9
  go_enter Try.func8, Try.ntmps8
  go_upto_region 1 with (fail)
  generalize w.alloc (.cells (clV s z) 48) = w0 at *
  have I0 := Lib.hid hI0
  clear hI0
  have hsz : (clV s z).size = 42 := clV_size s z hlen
  cases ok
  · have hbad := HP.out.2 rfl
    have HBD := Lib.hid hbad
    clear hbad hz1
    go_wp2_with (first
      | (refine wpList_load_mid rfl 48 (.tmp 1) rfl w.heap.size 0 rfl (clV s z).toList _ I1.out.b.range Try.underlying48 rfl (by rw [Array.length_toList, hsz]; exact Try.infoRc) ?_; rw [Array.toArray_toList])
      | (refine wpList_load_mid rfl 48 (.tmp 1) rfl w.heap.size 0 rfl (clV s z).toList _ I0.out.b.range Try.underlying48 rfl (by rw [Array.length_toList, hsz]; exact Try.infoRc) ?_; rw [Array.toArray_toList])
      | (go_at_call 17; refine (to_cl s z w.heap.size _ I0.out.i I0.out.bel.size HF.out.2.2.1 HF.out.2.2.2).mono ?_; rintro en w1 ⟨p6, c6, p9, c9, rfl, hi, hb⟩; have T1 := Lib.hid (And.intro hi hb); clear hi hb)
      | (go_at_call 16; refine (putClient_c s _ w1.heap.size _ T1.out.1 (Nat.le_refl _) HF.out.2.1).mono ?_; rintro en w2 ⟨⟨hh, rfl⟩ | ⟨hh, _⟩, hb⟩; (rotate_left; (· rw [HBD.out] at hh; cases hh)); have I1 := Lib.hid ((I0.out.below T1.out.2).below hb); clear hh hb)
      | (go_at_call 23; refine (rputClient_c s z w.heap.size _ I1.out.i I1.out.bel.size HF.out.1).mono ?_; rintro en w3 ⟨⟨_, rfl⟩ | ⟨hh, _⟩, hb⟩; (rotate_left; (· rw [← HOK.out] at hh; cases hh)); have I2 := Lib.hid (I1.out.below hb); clear hb)
      | (go_at_call 12; refine (greets_c _).mono ?_; rintro en w4 ⟨rfl, hb⟩; have I3 := Lib.hid (I2.out.below hb); have q0 := run_nilC w4; clear hb))
    all_goals go_ret
    all_goals exact ⟨rfl, I3.out.bel⟩
  · have hgood := HP.out.1 rfl
    have hgb := HBK.out rfl
    have hle : (rputCL s).length ≤ 3000 := by
      have h1 := eC_le HOK.out.symm
      have h2 := (rokC_of HOK.out.symm).1.o1
      have h3 := all16_len (rokC_of HOK.out.symm).1.o3
      unfold rputCL
      simp only [List.length_append, vecL_len, lstL_len, hlen, List.length_cons, List.length_nil]
      omega
    have hfew : s.ids.length = s.bnd.length ∧ s.ids.length ≤ 4 ∧ s.shs.length ≤ 4 := ⟨(rokC_of HOK.out.symm).1.o11, (rokC_of HOK.out.symm).1.o10, (rokC_of HOK.out.symm).1.o7⟩
    have HGD := Lib.hid (And.intro hgood (And.intro hgb (And.intro hle hfew)))
    clear hgood hgb hle hfew
    go_upto_region 7 with (first
      | (refine wpList_load_mid rfl 48 (.tmp 1) rfl w.heap.size 0 rfl (clV s z).toList _ I1.out.b.range Try.underlying48 rfl (by rw [Array.length_toList, hsz]; exact Try.infoRc) ?_; rw [Array.toArray_toList])
      | (refine wpList_load_mid rfl 48 (.tmp 1) rfl w.heap.size 0 rfl (clV s z).toList _ I0.out.b.range Try.underlying48 rfl (by rw [Array.length_toList, hsz]; exact Try.infoRc) ?_; rw [Array.toArray_toList])
      | (go_at_call 17; refine (to_cl s z w.heap.size _ I0.out.i I0.out.bel.size HF.out.2.2.1 HF.out.2.2.2).mono ?_; rintro en w1 ⟨p6, c6, p9, c9, rfl, hi, hb⟩; have T1 := Lib.hid (And.intro hi hb); clear hi hb)
      | (go_at_call 16; refine (putClient_c s _ w1.heap.size _ T1.out.1 (Nat.le_refl _) HF.out.2.1).mono ?_; rw [HGD.out.1]; rintro en w2 ⟨⟨hh, _⟩ | ⟨_, g, p, n, c, rfl, hn, hg, hO⟩, hb⟩; (· cases hh); have I1 := Lib.hid ((I0.out.below T1.out.2).below hb); have O1 := Lib.hid (And.intro hn hO); clear hb hn hO)
      | (go_at_call 23; refine (rputClient_c s z w.heap.size _ I1.out.i I1.out.bel.size HF.out.1).mono ?_; rintro en w3 ⟨⟨hh, _⟩ | ⟨_, p', n', c', rfl, hO, hx⟩, hb⟩; (· rw [← HOK.out] at hh; cases hh); have I2 := Lib.hid (I1.out.below hb); have O2 := Lib.hid (And.intro (Own.keep O1.out.2 hb) hO); clear hb hO hx)
      | (go_at_call 12; refine (greets_c _).mono ?_; rintro en w4 ⟨rfl, hb⟩; have I3 := Lib.hid (I2.out.below hb); have O3 := Lib.hid (Own.keep O2.out.1 hb); have q1 := run_str (c := c) (Own.keep O2.out.1 hb).rd O1.out.1; have q2 := run_str (c := c') (O2.out.2.below hb).rd O2.out.2.len; clear hb))
    clear I0 I1 I2 O2 q1 q2
    have hpn : p = none → c = 0 := own_nilc O3.out
    have HPN := Lib.hid hpn
    have hnl : n ≤ 3000 := by rw [← O1.out.1]; exact HGD.out.2.2.1
    have l9 := I3.out.i.s9.1
    have l10 := I3.out.i.s10.1
    have h910 : z.n9 = z.n10 := by rw [← l9, ← l10]; exact HGD.out.2.2.2.1
    have h94 : z.n9 ≤ 4 := by rw [← l9]; exact HGD.out.2.2.2.2.1
    have HL := Lib.hid (And.intro l9 (And.intro l10 h910))
    clear l9 l10 hpn h910
    go_upto_region 8 with (first
      | (go_at_call 18; refine (getClient_c (· = g) p n c (rputCL s) _ O3.out.rd HPN.out (by have := HGD.out.2.2.1; omega) O1.out.1).mono ?_; rw [HGD.out.2.1]; rintro en w5 ⟨z1, rfl, hi, hb⟩; have G1 := Lib.hid (And.intro hi hb); clear hi hb)
      | (refine st_blk rfl 56 (.tmp 7) (.tmp 44) rfl w5.heap.size (clV s z1) rfl rfl 56 (clV clZ z10) (Blk.new w5 _ _) (by rw [clV_size _ _ G1.out.1.len]; exact Try.infoCl) (by rw [clV_size _ _ rfl, clV_size _ _ G1.out.1.len]) (clV_ones _ _) ?_; intro w6 hb2 ho2; have B2 := fresh_below ho2; have C2 := G1.out.2.trans (B2.mono G1.out.2.size); have J6 := Lib.hid (show HCJ w s z w5.heap.size z1 w6 from ⟨I3.out.below C2, ClX.fresh rfl G1.out.1 hb2 B2⟩); have O6 := Lib.hid (Own.keep O3.out C2); clear hb2 ho2 B2 C2))
    generalize w5.heap.size = q1 at *
    clear G1
    by_cases h0 : z.n9 = 0
    · have hids : s.ids.length = 0 := by rw [HL.out.1]; exact h0
      have HI := Lib.hid hids
      have hng : ¬ (0 : Int) < (z.n9 : Int) := by omega
      clear hids
      go_upto_region 9 with (go_at_call 26; refine (cut_c (· = g) p n c (rputCL s) (s, 0) _ HGD.out.2.1 O6.out.rd HPN.out (by have := HGD.out.2.2.1; omega) O1.out.1 ⟨HGD.out.2.2.2.1, HGD.out.2.2.2.2.1⟩).mono ?_; rintro en w7 ⟨⟨hh, _⟩ | ⟨_, _, rfl⟩ | ⟨_, hh, _⟩, hb⟩; (· exact absurd rfl hh); (rotate_left; (· have h1 := HI.out; simp only at hh; omega)); have J8 := Lib.hid (J6.out.below hb); clear hb)
      have hJ := J8.out.below ((Below.refl _ _).drew)
      have hs1 : (clV s z1).size = 42 := clV_size _ _ hlen
      go_region_held3 (fun w' => (w'.heap[q1]? = some (.cells (clV s z1) 56 (0, 0)) ∧ w'.heap[w.heap.size]? = some (.cells (clV s z) 48 (0, 0))) ∧ w'.cell? ⟨w.heap.size, 40, none⟩ = some (.slice z.p9 z.n9 z.c9)) (first | exact ⟨⟨hJ.b1.1, hJ.k.b⟩, hJ.k.b.d40 hlen⟩ | exact ⟨⟨J8.out.b1.1, J8.out.k.b⟩, J8.out.k.b.d40 hlen⟩) (first
        | (go_at_call 21; refine (sameClient_c s _ z _ hF.out (hJ.k.i.mono (fun k hk _ => hk)) HGD.out.2.2.2.1).mono ?_; rintro en w10 ⟨rfl, hb⟩; have hJ2 := hJ.below hb; clear hJ; have hJ := hJ2; clear hJ2 hb hF)
        | (go_at_call 22; refine (from_cl s z1 _ _ hJ.b1.2 (Nat.le_refl _) (by have := hJ.b1.2.s6.1; have := HGD.out.2.2.2.2.2; omega) (by have := hJ.b1.2.s9.1; have := HGD.out.2.2.2.2.1; omega)).mono ?_; rintro en w9 ⟨p6', c6', p9', c9', rfl, hi, hb⟩; have hF := Lib.hid hi; have hJ2 := hJ.below hb; clear hJ; have hJ := hJ2; clear hJ2 hb hi))
      all_goals go_wp2
      all_goals go_ret
      all_goals exact ⟨rfl, hJ.k.bel⟩
    · have hids : 0 < s.ids.length := by rw [HL.out.1]; omega
      have HI := Lib.hid hids
      have hng : (0 : Int) < (z.n9 : Int) := by omega
      have hng2 : 0 < z.n9 := by omega
      have hng3 : decide (0 < z.n9) = true := decide_eq_true hng2
      obtain ⟨v, hv⟩ : ∃ v : Int, v = (n : Int) - 2 - (s.bnd.length : Int) * 33 := ⟨_, rfl⟩
      have hv2 : v = (n : Int) - 2 - 33 * (z.n9 : Int) := by
        have h1 := HL.out.2.1
        have h2 := HL.out.2.2
        rw [hv, h1, ← h2]
        omega
      have HV := Lib.hid hv
      have hvd : (v == (n : Int) - 2 - 33 * (z.n9 : Int)) = true := by rw [hv2]; simp
      have e1 : IntKind.i64.wrap ((n : Int) - 2) = (n : Int) - 2 := IntWalk.i64_in _ (by omega)
      have e2 : IntKind.i64.wrap (33 * (z.n9 : Int)) = 33 * (z.n9 : Int) := IntWalk.i64_in _ (by omega)
      have e3 : IntKind.i64.wrap ((n : Int) - 2 - 33 * (z.n9 : Int)) = (n : Int) - 2 - 33 * (z.n9 : Int) := IntWalk.i64_in _ (by omega)
      clear hids hv hv2
      go_upto_region 9 with (go_at_call 26; refine (cut_c (· = g) p n c (rputCL s) (s, 0) _ HGD.out.2.1 O6.out.rd HPN.out (by have := HGD.out.2.2.1; omega) O1.out.1 ⟨HGD.out.2.2.2.1, HGD.out.2.2.2.2.1⟩).mono ?_; unfold CutR; rw [← HV.out]; rintro en w7 ⟨⟨hh, _⟩ | ⟨_, hh, _⟩ | ⟨_, _, rfl⟩, hb⟩; (· exact absurd rfl hh); (· have h1 := HI.out; simp only at hh; omega); have J8 := Lib.hid (J6.out.below hb); clear hb)
      have hJ := J8.out.below ((Below.refl _ _).drew)
      have hs1 : (clV s z1).size = 42 := clV_size _ _ hlen
      go_region_held3 (fun w' => (w'.heap[q1]? = some (.cells (clV s z1) 56 (0, 0)) ∧ w'.heap[w.heap.size]? = some (.cells (clV s z) 48 (0, 0))) ∧ w'.cell? ⟨w.heap.size, 40, none⟩ = some (.slice z.p9 z.n9 z.c9)) (first | exact ⟨⟨hJ.b1.1, hJ.k.b⟩, hJ.k.b.d40 hlen⟩ | exact ⟨⟨J8.out.b1.1, J8.out.k.b⟩, J8.out.k.b.d40 hlen⟩) (first
        | (go_at_call 21; refine (sameClient_c s _ z _ hF.out (hJ.k.i.mono (fun k hk _ => hk)) HGD.out.2.2.2.1).mono ?_; rintro en w10 ⟨rfl, hb⟩; have hJ2 := hJ.below hb; clear hJ; have hJ := hJ2; clear hJ2 hb hF)
        | (go_at_call 22; refine (from_cl s z1 _ _ hJ.b1.2 (Nat.le_refl _) (by have := hJ.b1.2.s6.1; have := HGD.out.2.2.2.2.2; omega) (by have := hJ.b1.2.s9.1; have := HGD.out.2.2.2.2.1; omega)).mono ?_; rintro en w9 ⟨p6', c6', p9', c9', rfl, hi, hb⟩; have hF := Lib.hid hi; have hJ2 := hJ.below hb; clear hJ; have hJ := hJ2; clear hJ2 hb hi))
      all_goals go_wp2
      all_goals go_ret
      all_goals exact ⟨rfl, hJ.k.bel⟩
end Go.Proofs.Ytegmimnhkohaoaa
