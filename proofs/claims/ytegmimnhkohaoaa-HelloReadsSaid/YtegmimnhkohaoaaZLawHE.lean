/-
  The walk of HelloExtras: it returns true, and changes nothing that lay there. Conditions: few and short slices (what the second form bounds).
-/
import Derived.Test.YtegmimnhkohaoaaZg7
import Derived.Test.YtegmimnhkohaoaaZExtB
import Derived.Test.YtegmimnhkohaoaaZLawHR
namespace Go.Proofs.Ytegmimnhkohaoaa
open Go.RowKit Go.Kx
set_option linter.unusedVariables false
set_option linter.unusedSimpArgs false
set_option maxRecDepth 100000
attribute [local go_sem ↓] exec_ldSv exec_ldRv exec_ldCl exec_ldRc
attribute [local go_sem] stLoad_at

/-- What stands ahead of the comparison. -/
structure HEJ (w : World) (x : Cl) (y : Z10) (q : Nat) (z1 : Z10) (wx : World) : Prop where
  k : RK w w.heap.size x y wx
  b1 : ClX wx q 56 x z1
theorem HEJ.below {w wx wy : World} {x : Cl} {y z1 : Z10} {q : Nat} (h : HEJ w x y q z1 wx) (hb : Below wx.heap.size wx wy) : HEJ w x y q z1 wy := ⟨h.k.below hb, h.b1.below hb⟩
theorem kinds_far (K : Nat) : (100 + (K : Int)) ∉ kindsC := by
  intro h
  unfold kindsC at h
  simp only [List.mem_cons, List.not_mem_nil, or_false] at h
  omega
theorem in16_far (K : Nat) (h : K < 60000) : in16 (100 + (K : Int)) = true := by
  unfold in16
  simp only [Bool.and_eq_true, decide_eq_true_eq]
  omega
set_option maxHeartbeats 20000000 in
theorem helloExtras_c (s : Cl) (z : Z10) (kind : Int) (p : Option Addr) (n c : Nat) (b : List UInt8) (w : World) (h : IsCl w (· < w.heap.size) s z) (hf : FitR s) (hR : Rd w (· < w.heap.size) p b) (hp : p = none → c = 0) (hn : b.length = n) (h1 : n ≤ c) (h2 : c ≤ maxLen) :
    Calls Try.prog 6 #[.agg (clV s z), .int .i64 kind, .slice p n c] w (BoolR w true) := by
  have hB := Blk.new w 48 (clV s z)
  have hb0 : Below w.heap.size w (w.alloc (.cells (clV s z) 48)) := (Below.refl _ _).alloc (Nat.le_refl _) _
  have hI0 : RK w w.heap.size s z (w.alloc (.cells (clV s z) 48)) := ⟨hB, h.below hb0, hb0, Nat.le_refl _⟩
  have hlen := h.len
  have hb1 := hI0.bare
  have c40 := hI0.b.d40 hlen
  have c41 := hI0.b.d41 hlen
  have f40 := hI0.b.fr 40
  have f41 := hI0.b.fr 41
  have c41' : ((w.alloc (.cells (clV s z) 48)).setCell ⟨w.heap.size, 40, none⟩ (.slice none 0 0)).cell? ⟨w.heap.size, 41, none⟩ = some (.slice z.p10 z.n10 z.c10) := by rw [World.cell?_setCell_other _ _ _ _ (by simp)]; exact c41
  have hz1 := run_zeroCl
  have hrd : ∀ {w' : World}, Below w.heap.size w w' → Rd w' (· < w.heap.size) p b := fun h => hR.below h
  have HR := Lib.hid (And.intro hn (And.intro hp (fun (w' : World) (h : Below w.heap.size w w') => hR.below h)))
  have hk : ∃ k, (if (40 : Int) < (n : Int) then (40 : Int) else (n : Int)).toNat = k ∧ k ≤ n ∧ k ≤ 40 := ⟨_, rfl, by split <;> omega, by split <;> omega⟩
  have HKN := Lib.hid hk
  have HF := Lib.hid hf.bare
  clear hB hb0 hI0 h hrd hR hn hp hk hf
  have HI1 := Lib.hid hb1
  clear hb1
  go_enter Try.func6, Try.ntmps6
  go_upto_region 1 with (fail)
  generalize w.alloc (.cells (clV s z) 48) = w0 at *
  go_upto_region 2 with (fail)
  clear c40 c41 c41' f40 f41
  generalize (w0.setCell ⟨w.heap.size, 40, none⟩ (.slice none 0 0)).setCell ⟨w.heap.size, 41, none⟩ (.slice none 0 0) = w1 at *
  have hlen' : (bareC s).R.length = 32 := hlen
  have hi0 : (bareC s).ids.length = 0 := rfl
  have hfew : (bareC s).bnd.length = 0 := rfl
  generalize bareC s = x at *
  generalize bareZ z = y at *
  have hsz : (clV x y).size = 42 := clV_size x y hlen'
  obtain ⟨ok, hok⟩ : ∃ b, b = rokC x := ⟨_, rfl⟩
  have HOK := Lib.hid hok
  clear hok
  cases ok
  · go_wp2_with (first
      | (refine wpList_load_mid rfl 48 (.tmp 3) rfl w.heap.size 0 rfl (clV x y).toList _ HI1.out.b.range Try.underlying48 rfl (by rw [Array.length_toList, hsz]; exact Try.infoRc) ?_; rw [Array.toArray_toList])
      | (go_at_call 23; refine (rputClient_c x y w.heap.size _ HI1.out.i HI1.out.bel.size HF.out).mono ?_; rintro en w3 ⟨⟨_, rfl⟩ | ⟨hh, _⟩, hb⟩; (rotate_left; (· rw [← HOK.out] at hh; cases hh)); have I2 := Lib.hid (HI1.out.bel.trans (hb.mono HI1.out.bel.size)); clear hb)
      | (go_at_call 12; have hq := I2; refine (greets_c _).mono ?_; rintro en w4 ⟨rfl, hb⟩; have I3 := Lib.hid (I2.out.trans (hb.mono I2.out.size)); clear I2; have I2 := I3; clear I3 hb hq))
    all_goals go_ret
    all_goals exact ⟨rfl, I2.out⟩
  · go_upto_region 5 with (first
      | (refine wpList_load_mid rfl 48 (.tmp 3) rfl w.heap.size 0 rfl (clV x y).toList _ HI1.out.b.range Try.underlying48 rfl (by rw [Array.length_toList, hsz]; exact Try.infoRc) ?_; rw [Array.toArray_toList])
      | (go_at_call 23; refine (rputClient_c x y w.heap.size _ HI1.out.i HI1.out.bel.size HF.out).mono ?_; rintro en w3 ⟨⟨hh, _⟩ | ⟨_, p', n', c', rfl, hO, hx⟩, hb⟩; (· rw [← HOK.out] at hh; cases hh); have I2 := Lib.hid (And.intro (HI1.out.below hb) hO); clear hb hO hx)
      | (go_at_call 12; refine (greets_c _).mono ?_; rintro en w4 ⟨rfl, hb⟩; have I3 := Lib.hid (And.intro (I2.out.1.below hb) (I2.out.2.below hb)); clear hb))
    go_upto_region 6 with (fail)
    obtain ⟨k, hk0, hk1, hk2⟩ := HKN.out
    rw [hk0]
    generalize (if (40 : Int) < (n : Int) then (40 : Int) else (n : Int)) = m at *
    have hR' : ∀ (w' : World), Below w.heap.size w w' → Rd w' (· < w.heap.size) p (b.take k) := fun w' h => rd_take (HR.out.2.2 w' h) k
    have hl' : (b.take k).length = k := by rw [List.length_take, HR.out.1]; omega
    obtain ⟨a, ha⟩ : ∃ a, a = b.take k := ⟨_, rfl⟩
    rw [← ha] at hR' hl'
    have HA := Lib.hid (And.intro hl' (And.intro HR.out.2.1 hR'))
    clear ha hk0 hl' hR' hk1 HKN
    obtain ⟨K, hK, hKn⟩ := hopM kind 60000 (by omega) (by omega)
    have hK' : wrap64 ((IntKind.u64.wrap kind).tmod 60000) = (K : Int) := hK
    clear hK
    have hka : IntKind.i64.wrap (100 + (K : Int)) = 100 + (K : Int) := IntWalk.i64_in _ (by omega)
    go_upto_region 7 with (fail)
    have e4 : ([b8 ((100 + (K : Int)) / 256), b8 (100 + (K : Int)), 0, b8 (k : Int)] : List UInt8).map B8 = [.int .u8 ((100 + (K : Int)) / 256), .int .u8 ((100 + (K : Int)) % 256), .int .u8 0, .int .u8 (k : Int)] := by
      have hm : (k : Int) % 256 = (k : Int) := by omega
      have hm2 : (100 + (K : Int)) / 256 % 256 = (100 + (K : Int)) / 256 := by omega
      simp [B8, b8_nat, hm, hm2]
    have h4 := (OB.of_own (Own.lit w4 [b8 ((100 + (K : Int)) / 256), b8 (100 + (K : Int)), 0, b8 (k : Int)] (by simp))).1
    rw [e4] at h4
    have hrx : [b8 ((100 + (K : Int)) / 256), b8 (100 + (K : Int)), 0, b8 (k : Int)] ++ a = rextL (100 + (K : Int)) a := by
      unfold rextL
      rw [HA.out.1, ← u16L_nat k (by omega)]
      unfold u16L
      have h0 : b8 ((k : Int) / 256) = 0 := by rw [show (k : Int) / 256 = 0 by omega]; rfl
      rw [h0]
      rfl
    have hbl : Below w4.heap.size w4 (w4.alloc (.cells #[.int .u8 ((100 + (K : Int)) / 256), .int .u8 ((100 + (K : Int)) % 256), .int .u8 0, .int .u8 (k : Int)] 5)) := (Below.refl _ _).alloc (Nat.le_refl _) _
    have H4 := Lib.hid (And.intro h4 (And.intro hrx hbl))
    clear e4 h4 hrx hbl
    go_upto_region 8 with (at_builtin; refine wpList_app8 rfl _ _ rfl H4.out.1 rfl _ p k c a rfl HA.out.1 (HA.out.2.2 _ (I3.out.1.bel.trans (H4.out.2.2.mono I3.out.1.bel.size))) HA.out.2.1 (by rw [HA.out.1]; simp only [List.length_cons, List.length_nil]; omega) ?_; rw [H4.out.2.1]; intro p5 n5 c5 w5 h1 h2 h3; have B5 := below_only H4.out.2.2 (by rw [World.size_alloc]; omega) h3 (fun k hk e => by cases e; exact absurd hk (Nat.lt_irrefl _)); have H5 := Lib.hid (And.intro h1 (And.intro (I3.out.1.below B5) (I3.out.2.below B5))); clear h1 h2 h3 B5)
    clear H4 I3 I2
    have hoc := (rokC_of HOK.out.symm).1
    have l1 : x.ses.length = y.n1 := H5.out.2.1.i.s1.1
    have l2 : x.suites.length = y.n2 := H5.out.2.1.i.s2.1
    have hn1 : y.n1 ≤ 32 := by rw [← l1]; exact hoc.o1
    have hn2 : y.n2 ≤ 8 := by have h := all16_len hoc.o3; omega
    have hE := (eC_le HOK.out.symm)
    obtain ⟨L, hL⟩ : ∃ L, L = (eC7 x).length := ⟨_, rfl⟩
    have hLb : L ≤ 3000 := by rw [hL]; omega
    obtain ⟨I, hI⟩ : ∃ I, I = (headL x).length := ⟨_, rfl⟩
    have hIv : I = 35 + y.n1 + 2 + 2 * y.n2 + 2 := by rw [hI, headL_len x hlen', l1, l2]
    have hat := greetL_at x (eC7 x) (by omega)
    rw [← hI, ← hL] at hat
    have hlp : (rputCL x).length = I + 2 + L := by
      rw [rputCL_greet, greetL_head x (eC7 x) (by omega), hI, hL]
      simp only [List.length_append, List.length_cons, List.length_nil]
      omega
    have hpn : p'.isSome = true → True := fun _ => trivial
    have hln' := H5.out.2.2.len
    obtain ⟨g, hpg, hog, hgl⟩ := H5.out.2.2.pos (by omega)
    have ca : w5.cell? ⟨g, I, none⟩ = some (.int .u8 ((L / 256 : Nat) : Int)) := by
      have h := cell_ob (k := I) (hpg ▸ H5.out.2.2) (by omega)
      have h3 : (rputCL x)[I]'(by omega) = b8 ((L : Int) / 256) := by have := hat.1; rw [← rputCL_greet, List.getElem?_eq_getElem (by omega)] at this; exact Option.some.inj this
      rw [h, h3, B8, b8_nat]
      congr 2
      omega
    have cb : w5.cell? ⟨g, I + 1, none⟩ = some (.int .u8 ((L % 256 : Nat) : Int)) := by
      have h := cell_ob (k := I + 1) (hpg ▸ H5.out.2.2) (by omega)
      have h3 : (rputCL x)[I + 1]'(by omega) = b8 (L : Int) := by have := hat.2; rw [← rputCL_greet, List.getElem?_eq_getElem (by omega)] at this; exact Option.some.inj this
      rw [h, h3, B8, b8_nat]
      congr 2
    obtain ⟨X, hX⟩ : ∃ X, X = L / 256 := ⟨_, rfl⟩
    obtain ⟨Y, hY⟩ : ∃ Y, Y = L % 256 := ⟨_, rfl⟩
    rw [← hX] at ca
    rw [← hY] at cb
    have hXY : X * 256 + Y = L := by omega
    have c32 := H5.out.2.1.b.d32 hlen'
    have c33 := H5.out.2.1.b.d33 hlen'
    have e1 : IntKind.i64.wrap (35 + (y.n1 : Int)) = 35 + (y.n1 : Int) := IntWalk.i64_in _ (by omega)
    have e2 : IntKind.i64.wrap (35 + (y.n1 : Int) + 2) = 35 + (y.n1 : Int) + 2 := IntWalk.i64_in _ (by omega)
    have e3 : IntKind.i64.wrap (2 * (y.n2 : Int)) = 2 * (y.n2 : Int) := IntWalk.i64_in _ (by omega)
    have e4 : IntKind.i64.wrap (35 + (y.n1 : Int) + 2 + 2 * (y.n2 : Int)) = 35 + (y.n1 : Int) + 2 + 2 * (y.n2 : Int) := IntWalk.i64_in _ (by omega)
    have e5 : IntKind.i64.wrap (35 + (y.n1 : Int) + 2 + 2 * (y.n2 : Int) + 2) = (I : Int) := by rw [IntWalk.i64_in _ (by omega)]; omega
    have e6 : IntKind.i64.wrap ((I : Int) + 1) = ((I + 1 : Nat) : Int) := IntWalk.i64_in _ (by omega)
    have e7 : IntKind.i64.wrap ((X : Int) * 256) = (X : Int) * 256 := IntWalk.i64_in _ (by omega)
    have e8 : IntKind.i64.wrap ((X : Int) * 256 + (Y : Int)) = (L : Int) := by rw [IntWalk.i64_in _ (by omega)]; omega
    have hX0 : IntKind.i64.wrap (X : Int) = (X : Int) := IntWalk.i64_in _ (by omega)
    have hY0 : IntKind.i64.wrap (Y : Int) = (Y : Int) := IntWalk.i64_in _ (by omega)
    have HE8 := Lib.hid (show IntKind.i64.wrap (IntKind.i64.wrap (IntKind.i64.wrap (X : Int) * 256) + IntKind.i64.wrap (Y : Int)) = (L : Int) by rw [hX0, hY0, e7, e8])
    clear hX0 hY0 e7 e8
    have HPL := Lib.hid (And.intro hlp (And.intro hI (And.intro hL (And.intro hog hgl))))
    have k1 : (I : Int) < (n' : Int) := by omega
    have k2 : (0 : Int) ≤ (I : Int) := by omega
    have k3 : ((I + 1 : Nat) : Int) < (n' : Int) := by omega
    have k4 : (0 : Int) ≤ ((I + 1 : Nat) : Int) := by omega
    have k5 : (I : Int) + 1 < (n' : Int) := by omega
    have k6 : (0 : Int) ≤ (I : Int) + 1 := by omega
    have hLN := Lib.hid (And.intro hLb (show I ≤ 100 by omega))
    subst hpg
    clear hE hat hlp hpn hog hgl l1 l2 hn1 hn2 hI hL hX hY hIv hLb hXY
    go_upto_region 9 with (fail)
    go_region_held3 (fun w' => w'.cell? ⟨g, I, none⟩ = some (.int .u8 (X : Int)) ∧ w'.cell? ⟨g, I + 1, none⟩ = some (.int .u8 (Y : Int))) (exact ⟨ca, cb⟩) (fail)
    go_upto_region 10 with (fail)
    rw [HE8.out]
    have hdr : Below w5.heap.size w5 w5.drew := (Below.refl _ _).drew
    have J6 := Lib.hid (And.intro (H5.out.1.below hdr) (And.intro (H5.out.2.1.below hdr) (H5.out.2.2.below hdr)))
    have hl5 : k + 4 = n5 := by have := H5.out.1.len; rw [rextL_len, HA.out.1] at this; exact this
    clear hdr ca cb c32 c33 e1 e2 e3 e4 e5 e6 k1 k2 k3 k4 k5 k6 H5
    generalize w5.drew = w6 at *
    have e9 : IntKind.i64.wrap ((L : Int) + (n5 : Int)) = ((L + n5 : Nat) : Int) := IntWalk.i64_in _ (by have := hLN.out; omega)
    have HL5 := Lib.hid hl5
    clear hl5
    go_upto_region 12 with (first
      | (go_at_call 24; have hq := H7; refine (extended_c _ _ p7 p5 n7 c7 n5 c5 (greetL x (eC7 x ++ rextL (100 + (K : Int)) a)) (rextL (100 + (K : Int)) a) I (L + n5) _ H7.out.2.1.rd H7.out.2.1.nilc H7.out.2.1.len (by have h1 := H7.out.2.1.len; have h2 := H7.out.2.2; have h3 := hLN.out; have h4 := HL5.out; omega) H7.out.1.1.rd H7.out.1.1.nilc H7.out.1.1.len (by have := HL5.out; omega) (by have h2 := H7.out.2.2; omega) (by have h3 := hLN.out; have h4 := HL5.out; omega)).mono ?_; rintro en w8 ⟨p8, n8, c8, rfl, hO, hx, hb⟩; have H8 := Lib.hid (And.intro (H7.out.1.2.below hb) (And.intro (H7.out.2.1.below hb) hO)); clear hO hx hb hq)
      | (go_at_call 24; refine (extended_c _ _ (some ⟨g, 0, none⟩) p5 n' c' n5 c5 (rputCL x) (rextL (100 + (K : Int)) a) I L _ J6.out.2.2.rd (fun h => by cases h) J6.out.2.2.len (by have h1 := J6.out.2.2.len; have h2 := HPL.out.1; have h3 := hLN.out; omega) J6.out.1.rd J6.out.1.nilc J6.out.1.len (by have := HL5.out; omega) (by have h1 := J6.out.2.2.len; have h2 := HPL.out.1; omega) (by have h3 := hLN.out; omega)).mono ?_; rintro en w7 ⟨p7, n7, c7, rfl, hO, hx, hb⟩; have hO2 := (show OB w7 p7 n7 c7 (greetL x (eC7 x ++ rextL (100 + (K : Int)) a)) from by rw [← greetL_more x (eC7 x) _ (by have h3 := hLN.out; have h4 := HPL.out.2.2.1; have h5 := J6.out.1.len; have h6 := HL5.out; omega), ← HPL.out.2.1, ← HPL.out.2.2.1, J6.out.1.len]; exact hO); have hn7 : n7 = I + 2 + L + n5 := (by have h1 := hO.len; have h2 := HPL.out.1; have h3 := J6.out.1.len; rw [List.length_append, List.length_set, List.length_set] at h1; omega); have H7 := Lib.hid (And.intro (And.intro (J6.out.1.below hb) (J6.out.2.1.below hb)) (And.intro hO2 hn7)); clear hO hO2 hx hb hn7))
    have hEl : (eC7 x ++ rextL (100 + (K : Int)) a).length = L + n5 := by
      have h1 := H7.out.1.1.len
      have h2 := HPL.out.2.2.1
      rw [List.length_append, h1, h2]
    have hXl : (rextL (100 + (K : Int)) a).length = n5 := H7.out.1.1.len
    have hO8 : OB w8 p8 n8 c8 (greetL x (eC7 x ++ rextL (100 + (K : Int)) a ++ rextL (100 + (K : Int)) a)) := by
      have h3 := hLN.out
      have h4 := HL5.out
      rw [← greetL_more x _ _ (by rw [hEl, hXl]; omega), hEl, hXl, ← HPL.out.2.1]
      exact H8.out.2.2
    have hal : a.length ≤ 40 := by have := HA.out.1; omega
    have hg1 := getC_extra x hlen' HOK.out.symm hi0 (100 + (K : Int)) a (in16_far K hKn) (kinds_far K) hal
    have hg2 := getC_twice x hlen' HOK.out.symm hi0 (100 + (K : Int)) a (in16_far K hKn) (kinds_far K) hal
    obtain ⟨v, hv⟩ : ∃ v : Cl, getC (greetL x (eC7 x ++ rextL (100 + (K : Int)) a ++ rextL (100 + (K : Int)) a)) = (v, 3) := ⟨_, by rw [← hg2]⟩
    have h10 : n7 ≤ 70000 := by have h1 := H7.out.2.2; have h3 := hLN.out; have h4 := HL5.out; omega
    have h11 : n8 ≤ 70000 := by
      have h1 := H8.out.2.2.len
      have h2 := H7.out.2.1.len
      rw [List.length_append, List.length_set, List.length_set, hXl] at h1
      have h3 := hLN.out
      have h4 := HL5.out
      have h5 := H7.out.2.2
      omega
    have HG := Lib.hid (And.intro hg1 (And.intro hv (And.intro h10 h11)))
    have H8' := Lib.hid (And.intro H8.out.1 (And.intro H8.out.2.1 hO8))
    have HF2 := Lib.hid (And.intro (show x.shs.length ≤ 4 from hoc.o7) (show x.ids.length = x.bnd.length from hoc.o11))
    clear hEl hXl hO8 hal hg1 hg2 hv h10 h11 H8 H7 J6 HPL hLN HL5 HA hoc
    go_upto_region 13 with (first
      | (go_at_call 18; refine (getClient_c _ p7 n7 c7 _ _ H8'.out.2.1.rd H8'.out.2.1.nilc (by have := H8'.out.2.1.len; have := HG.out.2.2.1; omega) H8'.out.2.1.len).mono ?_; rw [HG.out.1]; rintro en w9 ⟨z1, rfl, hi, hb⟩; have G1 := Lib.hid (And.intro hi hb); clear hi hb)
      | (refine st_blk rfl 56 (.tmp 15) (.tmp 94) rfl w9.heap.size (clV x z1) rfl rfl 56 (clV clZ z10) (Blk.new w9 _ _) (by rw [clV_size _ _ G1.out.1.len]; exact Try.infoCl) (by rw [clV_size _ _ rfl, clV_size _ _ G1.out.1.len]) (clV_ones _ _) ?_; intro w10 hb2 ho2; have B2 := fresh_below ho2; have C2 := G1.out.2.trans (B2.mono G1.out.2.size); have J9 := Lib.hid (show HEJ w x y w9.heap.size z1 w10 from ⟨H8'.out.1.below C2, ClX.fresh rfl G1.out.1 hb2 B2⟩); have O9 := Lib.hid (H8'.out.2.2.below C2); clear hb2 ho2 B2 C2))
    generalize w9.heap.size = q1 at *
    clear G1 H8'
    go_upto_region 14 with (first
      | (go_at_call 18; refine (getClient_c _ p8 n8 c8 _ _ O9.out.rd O9.out.nilc (by have := O9.out.len; have := HG.out.2.2.2; omega) O9.out.len).mono ?_; rw [HG.out.2.1]; rintro en w11 ⟨z2, rfl, hi, hb⟩; have G2 := Lib.hid (And.intro hi hb); clear hi hb)
      | (refine st_blk rfl 56 (.tmp 17) (.tmp 99) rfl w11.heap.size (clV v z2) rfl rfl 56 (clV clZ z10) (Blk.new w11 _ _) (by rw [clV_size _ _ G2.out.1.len]; exact Try.infoCl) (by rw [clV_size _ _ rfl, clV_size _ _ G2.out.1.len]) (clV_ones _ _) ?_; intro w12 hb2 ho2; have B2 := fresh_below ho2; have C2 := G2.out.2.trans (B2.mono G2.out.2.size); have J8 := Lib.hid (J9.out.below C2); clear hb2 ho2 B2 C2))
    clear O9 J9
    have hJ := J8.out.below ((Below.refl _ _).drew)
    have hs1 : (clV x z1).size = 42 := clV_size _ _ hlen'
    go_region_held3 (fun w' => w'.heap[q1]? = some (.cells (clV x z1) 56 (0, 0)) ∧ w'.heap[w.heap.size]? = some (.cells (clV x y) 48 (0, 0))) (first | exact ⟨hJ.b1.1, hJ.k.b⟩ | exact ⟨J8.out.b1.1, J8.out.k.b⟩) (first
      | (go_at_call 21; refine (sameClient_c x _ y _ hF.out (hJ.k.i.mono (fun k hk _ => hk)) HF2.out.2).mono ?_; rintro en w14 ⟨rfl, hb⟩; have hJ2 := hJ.below hb; clear hJ; have hJ := hJ2; clear hJ2 hb hF)
      | (go_at_call 22; refine (from_cl x z1 _ _ hJ.b1.2 (Nat.le_refl _) (by have := hJ.b1.2.s6.1; have := HF2.out.1; omega) (by have := hJ.b1.2.s9.1; omega)).mono ?_; rintro en w13 ⟨p6', c6', p9', c9', rfl, hi, hb⟩; have hF := Lib.hid hi; have hJ2 := hJ.below hb; clear hJ; have hJ := hJ2; clear hJ2 hb hi))
    all_goals go_wp2
    all_goals go_ret
    all_goals exact ⟨rfl, hJ.k.bel⟩
end Go.Proofs.Ytegmimnhkohaoaa
