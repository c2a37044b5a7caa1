/-
  The contract of relayref08.PutServer. No condition.
-/
import Derived.Test.YtegmimnhkohaoaaZg4
import Derived.Test.YtegmimnhkohaoaaYg1
import Derived.Test.YtegmimnhkohaoaaZg7
import Derived.Deep.CutBlock
namespace Go.Proofs.Ytegmimnhkohaoaa
open Go.RowKit Go.Kx
set_option linter.unusedVariables false
set_option linter.unusedSimpArgs false
attribute [local go_sem ↓] exec_ld32
attribute [local go_sem] ptLoad_at

theorem RdI.lit (w : World) (l : List Int) (t : Nat) : RdI (w.alloc (.cells (l.map I64).toArray t)) (· = w.heap.size) (some ⟨w.heap.size, 0, none⟩) l := by
  intro i hi
  refine ⟨_, rfl, rfl, ?_⟩
  have e : (⟨w.heap.size, 0, none⟩ : Addr).add i = ⟨w.heap.size, 0 + i, none⟩ := by unfold Addr.add; split <;> simp_all
  rw [e, World.cell?_alloc_at _ _ _ _ rfl]
  simp at hi
  simp [hi]

def RPutSR (w : World) (s : Sv) (e : Ending) (w' : World) : Prop :=
  ((rokS s = false ∧ e = .returned (.tuple #[.slice none 0 0, .bool false])) ∨ (rokS s = true ∧ ∃ g n c, e = .returned (.tuple #[.slice (some ⟨g, 0, none⟩) n c, .bool true]) ∧ (rputL s).length = n ∧ w.heap.size ≤ g ∧ Own w' g (.slice (some ⟨g, 0, none⟩) n c) (rputL s))) ∧ Below w.heap.size w w'

/-- append of bytes onto a row of the call's own that lies above B. -/
theorem wpList_appE {w : World} {ops : Array Oper} {rest : List Oper} {o : Oper} {a : Act} {Q : Exit → Act → World → Prop} (hgd : o.guard = none) (s x : Operand)
    (ho : o.op = .call { callee := .builtin .append, args := #[s, x], argTypes := #[23, 23] }) (g n c : Nat) (l : List UInt8) (hs : a.eval s = .slice (some ⟨g, 0, none⟩) n c) (hO : Own w g (.slice (some ⟨g, 0, none⟩) n c) l) (hl0 : 0 < l.length)
    (S : Nat → Prop) (p : Option Addr) (m c2 : Nat) (news : List UInt8) (hx : a.eval x = .slice p m c2) (hm : news.length = m) (hnil : p = none → c2 = 0) (hR : Rd w S p news) (hb : l.length + news.length ≤ 140737488355328) (B : Nat) (hB : B < g) (hBw : B < w.heap.size)
    (h : ∀ g' n' c' w', (l ++ news).length = n' → B < g' → Own w' g' (.slice (some ⟨g', 0, none⟩) n' c') (l ++ news) → Only (B < ·) w w' → wpList Try.prog ops Q rest (a.put o.dst (.slice (some ⟨g', 0, none⟩) n' c')) w') : wpList Try.prog ops Q (o :: rest) a w := by
  refine wpList_append_bytes w hgd s x 23 ho Try.underlying23 Try.info5 g _ l hs hO S p m c2 news hx hm hnil hR hb ?_
  intro g' v' w' hO' hg' ho' _
  obtain ⟨c', rfl, _, _, _⟩ := hO'.shape (own_ne hO' (by rw [List.length_append]; omega))
  exact h g' _ c' w' rfl (by rcases hg' with h | h <;> omega) hO' (ho'.mono (fun k _ hk => by omega))

theorem ArrB.rd {w : World} {r t : Nat} {xs : List UInt8} (h : ArrB w r t xs) : Rd w (· = r) (some ⟨r, 0, none⟩) xs := Rd.of_at rfl fun i hi => by rw [Nat.zero_add]; exact h.c i hi
theorem St.oned {W0 wx : World} {N : Nat} {os : List Ow} (h : St W0 wx.drew N os) (hN : 1 ≤ N) : St W0 (wx.alloc (.cells #[.int .u8 0] 5)).drew N (os ++ [(wx.heap.size, (some ⟨wx.heap.size, 0, none⟩, 1, 1), [0])]) := h.one hN
/-- What stays while a Server is put. -/
structure RI (w : World) (M : Nat) (s : Sv) (z : S3) (wx : World) : Prop where
  b : Blk wx w.heap.size 27 (svV s z)
  i : IsSv wx M s z
  bel : Below w.heap.size w wx
theorem RI.below {w wx wy : World} {M : Nat} {s : Sv} {z : S3} (h : RI w M s z wx) (hb : Below wx.heap.size wx wy) : RI w M s z wy := ⟨h.b.below hb, h.i.below hb, h.bel.trans (hb.mono h.bel.size)⟩
theorem RI.only {w wx wy : World} {M : Nat} {s : Sv} {z : S3} {q : Nat → Prop} (h : RI w M s z wx) (ho : Only q wx wy) (hM : M ≤ w.heap.size) (hq : ∀ k, k ≤ w.heap.size → ¬ q k) : RI w M s z wy :=
  ⟨h.b.only ho (hq _ (Nat.le_refl _)), h.i.only ho (fun k hk => hq k (by omega)), below_only h.bel h.bel.size ho (fun k hk => hq k (by omega))⟩
/-- .. and the random number's block. -/
structure RJ (w : World) (M : Nat) (s : Sv) (z : S3) (q : Nat) (wx : World) : Prop where
  i : RI w M s z wx
  a : ArrB wx q 22 (rndS s)
  lt : w.heap.size < q
theorem RJ.below {w wx wy : World} {M q : Nat} {s : Sv} {z : S3} (h : RJ w M s z q wx) (hb : Below wx.heap.size wx wy) : RJ w M s z q wy := ⟨h.i.below hb, h.a.below hb, h.lt⟩
theorem RJ.only {w wx wy : World} {M q : Nat} {s : Sv} {z : S3} (h : RJ w M s z q wx) (ho : Only (q < ·) wx wy) (hM : M ≤ w.heap.size) : RJ w M s z q wy :=
  ⟨h.i.only ho hM (fun k hk e => by have := h.lt; omega), h.a.only ho (Nat.lt_irrefl _), h.lt⟩
/-- A row of the call's own above q. -/
def OwnE (q : Nat) (l : List UInt8) (v : Value) (wx : World) : Prop := ∃ g n c, v = .slice (some ⟨g, 0, none⟩) n c ∧ l.length = n ∧ q < g ∧ Own wx g (.slice (some ⟨g, 0, none⟩) n c) l
def ER (w : World) (M : Nat) (s : Sv) (z : S3) (q : Nat) (l : List UInt8) (v : Value) (wx : World) : Prop := OwnE q l v wx ∧ RJ w M s z q wx ∧ q < wx.heap.size
theorem RI.lt {w wx : World} {M : Nat} {s : Sv} {z : S3} (h : RI w M s z wx) : w.heap.size < wx.heap.size := h.b.lt

set_option maxHeartbeats 40000000 in
set_option maxRecDepth 100000 in
theorem rputServer_c (s : Sv) (z : S3) (M : Nat) (w : World) (h : IsSv w M s z) (hM : M ≤ w.heap.size) : Calls Try.prog 11 #[.agg (svV s z)] w (RPutSR w s) := by
  have hB := Blk.new w 27 (svV s z)
  have hb0 : Below w.heap.size w (w.alloc (.cells (svV s z) 27)) := (Below.refl _ _).alloc (Nat.le_refl _) _
  have hI0 : RI w M s z (w.alloc (.cells (svV s z) 27)) := ⟨hB, h.below hb0, hb0⟩
  obtain ⟨ok1, hok1⟩ : ∃ b, b = ok1B s := ⟨_, rfl⟩
  have hrok : rokS s = (ok1 && ok2B s) := by rw [hok1]; rfl
  obtain ⟨ok2, hok2⟩ : ∃ b, b = ok2B s := ⟨_, rfl⟩
  rw [← hok2] at hrok
  unfold ok2B at hok2
  rw [h.s2.1, h.s3.1] at hok2
  have hRlen := h.len
  have HRK := Lib.hid (And.intro hrok hok2)
  have HRL := Lib.hid hRlen
  unfold ok1B at hok1
  rw [h.s1.1, h.s3.1] at hok1
  have HO1 := Lib.hid hok1
  clear hB hb0 h hok1 hrok hok2 hRlen
  go_enter Try.func11, Try.ntmps11
  go_upto_region 1 with (fail)
  generalize w.alloc (.cells (svV s z) 27) = w0 at *
  have I0 := Lib.hid hI0
  have c32 := hI0.b.c32 hI0.i
  have c33 := hI0.b.c33 hI0.i
  have c34 := hI0.b.c34 hI0.i
  have c35 := hI0.b.c35 hI0.i
  have c38 := hI0.b.c38 hI0.i
  have c39 := hI0.b.c39 hI0.i
  have hlt := hI0.lt
  clear hI0
  go_cut [4] (fun v4 wx => v4 = .bool ok1 ∧ RI w M s z wx)
  case first =>
    -- <<A
    as_aux_lemma =>
      obtain ⟨pm, hpm⟩ : ∃ pm, pm = max s.psk 0 := ⟨_, rfl⟩
      have hO := HO1.out
      rw [← hpm] at hO
      have HA := fun wx => all16_c (· = wx.heap.size) (some ⟨wx.heap.size, 0, none⟩) 4 4 [s.suite, s.ver, s.grp, pm] 4 _ (RdI.lit wx [s.suite, s.ver, s.grp, pm] 3) rfl (by omega)
      generalize all16B [s.suite, s.ver, s.grp, pm] 4 = rq at *
      obtain ⟨ps, hps⟩ : ∃ ps, ps = s.psk := ⟨_, rfl⟩
      rw [← hps] at hO c39 hpm
      have HAA := Lib.hid HA
      have HOO := Lib.hid hO
      clear HA hO HO1 hps
      have hal : ∀ v : Value, RI w M s z (w0.alloc (.cells #[I64 s.suite, I64 s.ver, I64 s.grp, v] 3)) := fun v => I0.out.below ((Below.refl _ _).alloc (Nat.le_refl _) _)
      have HAL := Lib.hid hal
      clear hal
      by_cases h1 : z.n1 ≤ 32
      · have h1d : decide ((z.n1 : Int) ≤ 32) = true := decide_eq_true (by omega)
        by_cases hp : 0 ≤ ps
        · obtain rfl : pm = ps := by omega
          clear hpm
          cases rq
          · go_wp2_with (go_at_call 36; refine (HAA.out _).mono ?_; rintro e w1 ⟨rfl, rfl⟩)
            all_goals go_meet
            all_goals exact ⟨congrArg Value.bool (by rw [HOO.out, Bool.eq_iff_iff]; simp), HAL.out _⟩
          · by_cases hn3 : z.n3 ≤ 64
            · go_wp2_with (go_at_call 36; refine (HAA.out _).mono ?_; rintro e w1 ⟨rfl, rfl⟩)
              all_goals go_meet
              all_goals exact ⟨congrArg Value.bool (by rw [HOO.out, Bool.eq_iff_iff]; simp <;> omega), HAL.out _⟩
            · go_wp2_with (go_at_call 36; refine (HAA.out _).mono ?_; rintro e w1 ⟨rfl, rfl⟩)
              all_goals go_meet
              all_goals exact ⟨congrArg Value.bool (by rw [HOO.out, Bool.eq_iff_iff]; simp <;> omega), HAL.out _⟩
        · obtain rfl : pm = 0 := by omega
          clear hpm
          cases rq
          · go_wp2_with (go_at_call 36; refine (HAA.out _).mono ?_; rintro e w1 ⟨rfl, rfl⟩)
            all_goals go_meet
            all_goals exact ⟨congrArg Value.bool (by rw [HOO.out, Bool.eq_iff_iff]; simp), HAL.out _⟩
          · by_cases hp1 : -1 ≤ ps
            · by_cases hn3 : z.n3 ≤ 64
              · go_wp2_with (go_at_call 36; refine (HAA.out _).mono ?_; rintro e w1 ⟨rfl, rfl⟩)
                all_goals go_meet
                all_goals exact ⟨congrArg Value.bool (by rw [HOO.out, Bool.eq_iff_iff]; simp <;> omega), HAL.out _⟩
              · go_wp2_with (go_at_call 36; refine (HAA.out _).mono ?_; rintro e w1 ⟨rfl, rfl⟩)
                all_goals go_meet
                all_goals exact ⟨congrArg Value.bool (by rw [HOO.out, Bool.eq_iff_iff]; simp <;> omega), HAL.out _⟩
            · go_wp2_with (go_at_call 36; refine (HAA.out _).mono ?_; rintro e w1 ⟨rfl, rfl⟩)
              all_goals go_meet
              all_goals exact ⟨congrArg Value.bool (by rw [HOO.out, Bool.eq_iff_iff]; simp <;> omega), HAL.out _⟩
      · have h1d : decide ((z.n1 : Int) ≤ 32) = false := decide_eq_false (by omega)
        go_wp2
        go_meet
        exact ⟨congrArg Value.bool (by rw [HOO.out, Bool.eq_iff_iff]; simp <;> omega), I0.out⟩
    -- A>>
  case rest =>
    obtain ⟨rfl, hI⟩ := hcut
    have I1 := Lib.hid hI
    have c35 := hI.b.c35 hI.i
    have c36 := hI.b.c36 hI.i
    have c37 := hI.b.c37 hI.i
    have c38 := hI.b.c38 hI.i
    have c39 := hI.b.c39 hI.i
    clear hI I0 c32 c33 c34 HO1
    obtain ⟨re, hre⟩ : ∃ re, re = s.retry := ⟨_, rfl⟩
    obtain ⟨gr, hgr⟩ : ∃ gr, gr = s.grp := ⟨_, rfl⟩
    obtain ⟨ps, hps⟩ : ∃ ps, ps = s.psk := ⟨_, rfl⟩
    obtain ⟨n2, hn2⟩ : ∃ n, n = z.n2 := ⟨_, rfl⟩
    obtain ⟨n3, hn3⟩ : ∃ n, n = z.n3 := ⟨_, rfl⟩
    have hk := HRK.out.2
    rw [← hre, ← hgr, ← hps, ← hn2, ← hn3] at hk
    rw [← hre] at c37
    rw [← hgr] at c35
    rw [← hps] at c39
    rw [← hn2] at c36
    rw [← hn3] at c38
    have HK := Lib.hid hk
    have HE := Lib.hid (And.intro hre (And.intro hgr (And.intro hps (And.intro hn2 hn3))))
    clear hk hre hgr hps hn2 hn3
    go_upto_if 39 with (fail)
    go_cut [4] (fun v4 wx => v4 = .bool (ok1 && ok2) ∧ RI w M s z wx)
    case first =>
      cases re
      · -- <<C
        have hs := fun w => run_eq32 w 9998 s.R retryL HRL.out retryL_len
        have hgu := Try.guard32
        have hI0 := I1.out
        have hI : RI w M s z wc.drew := I1.out.below ((Below.refl _ _).drew)
        obtain ⟨eqR, heqR⟩ : ∃ b, b = (s.R == retryL) := ⟨_, rfl⟩
        rw [← heqR] at hs
        have HER := Lib.hid heqR
        clear heqR
        have hkp : ∀ wx, RI w M s z wx → (wx.heap[w.heap.size]? = some (.cells (svV s z) 27 (0, 0)) ∧ wx.cell? ⟨w.heap.size, 35, none⟩ = some (.int .i64 gr) ∧ wx.cell? ⟨w.heap.size, 36, none⟩ = some (.slice z.p2 n2 z.c2) ∧ wx.cell? ⟨w.heap.size, 38, none⟩ = some (.slice z.p3 n3 z.c3)) := by
          intro wx h
          obtain ⟨-, e2, -, e4, e5⟩ := HE.out
          rw [e2, e4, e5]
          exact ⟨h.b, h.b.c35 h.i, h.b.c36 h.i, h.b.c38 h.i⟩
        have HKP := Lib.hid hkp
        have hszV := svV_sz s z HRL.out
        have hf32 := svV_first s z HRL.out
        clear hkp
        have hsh := fun wx => rshare_c gr z.p2 n2 z.c2 wx
        have hk := HK.out
        rw [if_neg Bool.false_ne_true] at hk
        obtain ⟨sb, hsb⟩ : ∃ b, b = shareB gr n2 := ⟨_, rfl⟩
        rw [← hsb] at hk hsh
        have HSH := Lib.hid hsh
        have hk2 : ok2 = ((!eqR && decide (n3 = 0)) && (if gr = 0 then decide (n2 = 0) else sb)) := by
          rw [hk, HER.out]
          congr 2
          rw [Bool.eq_iff_iff]
          simp
        have HK2 := Lib.hid hk2
        clear hk2 hk hsh hsb c37 c39
        cases ok1
        · clear c35 c36 c38
          as_aux_lemma =>
            go_upto_region 4 with (fail)
            go_quiet (fail)
            all_goals go_wp2
            all_goals go_meet
            all_goals exact ⟨rfl, hI0.below ⟨rfl, rfl, rfl, Nat.le_refl _, fun _ _ => rfl⟩⟩
        · cases eqR
          · -- undecided
            as_aux_lemma =>
              go_upto_region 4 with (fail)
              obtain ⟨hbd, e35, e36, e38⟩ := HKP.out _ hI
              refine wp_region_three (by kernel_rfl) [0, 1, 2, 3, 4, 5, 6, 7, 8, 9, 10, 11, 12, 13, 14, 15, 16, 17, 18, 19, 20, 21, 22, 23, 24, 25, 26, 27, 28, 29, 30, 31, 32, 33, 34, 35, 36, 37] [0, 1, 2, 4, 3, 5, 6, 7, 8, 9, 10, 11, 12, 13, 14, 15, 16, 17, 18, 19, 20, 21, 22, 23, 24, 25, 26, 27, 28, 29, 30, 31, 32, 33, 34, 35, 36, 37] [0, 1, 4, 2, 3, 5, 6, 7, 8, 9, 10, 11, 12, 13, 14, 15, 16, 17, 18, 19, 20, 21, 22, 23, 24, 25, 26, 27, 28, 29, 30, 31, 32, 33, 34, 35, 36, 37] (by kernel_rfl) (by kernel_rfl) (by kernel_rfl) (by kernel_rfl) ?_ ?_ ?_
              all_goals (try dsimp only [sw34, sw234])
              all_goals go_wp2_with (first
                | (go_at_call 37; refine (rretry_c _).mono ?_; rintro e w1 ⟨rfl, b1⟩; have hI2 := hI.below b1; clear hI; have hI := hI2; clear hI2; obtain ⟨hbw, d35, d36, d38⟩ := HKP.out _ hI)
                | (go_at_call 38; refine (HSH.out _).mono ?_; rintro e w2 ⟨rfl, b2⟩; have hI2 := hI.below b2; clear hI; have hI := hI2; clear hI2; obtain ⟨hbx, f35, f36, f38⟩ := HKP.out _ hI))
              all_goals go_wp2
              all_goals go_meet
              all_goals (refine ⟨congrArg Value.bool ?_, hI⟩; have hx := HK2.out; clear c35 c36 c38 e35 e36 e38 d35 d36 d38; simp_all [beq_cast] <;> omega)
          · have HF := Lib.hid (show ok2 = false by rw [HK2.out]; rfl)
            clear c35 c36 c38
            as_aux_lemma =>
              go_upto_region 4 with (fail)
              obtain ⟨hbd, e35, e36, e38⟩ := HKP.out _ hI
              refine wp_region_three (by kernel_rfl) [0, 1, 2, 3, 4, 5, 6, 7, 8, 9, 10, 11, 12, 13, 14, 15, 16, 17, 18, 19, 20, 21, 22, 23, 24, 25, 26, 27, 28, 29, 30, 31, 32, 33, 34, 35, 36, 37] [0, 1, 2, 4, 3, 5, 6, 7, 8, 9, 10, 11, 12, 13, 14, 15, 16, 17, 18, 19, 20, 21, 22, 23, 24, 25, 26, 27, 28, 29, 30, 31, 32, 33, 34, 35, 36, 37] [0, 1, 4, 2, 3, 5, 6, 7, 8, 9, 10, 11, 12, 13, 14, 15, 16, 17, 18, 19, 20, 21, 22, 23, 24, 25, 26, 27, 28, 29, 30, 31, 32, 33, 34, 35, 36, 37] (by kernel_rfl) (by kernel_rfl) (by kernel_rfl) (by kernel_rfl) ?_ ?_ ?_
              all_goals (try dsimp only [sw34, sw234])
              all_goals go_wp2_with (first
                | (go_at_call 37; refine (rretry_c _).mono ?_; rintro e w1 ⟨rfl, b1⟩; have hI2 := hI.below b1; clear hI; have hI := hI2; clear hI2; obtain ⟨hbw, d35, d36, d38⟩ := HKP.out _ hI)
                | (go_at_call 38; refine (HSH.out _).mono ?_; rintro e w2 ⟨rfl, b2⟩; have hI2 := hI.below b2; clear hI; have hI := hI2; clear hI2; obtain ⟨hbx, f35, f36, f38⟩ := HKP.out _ hI))
              all_goals go_wp2
              all_goals go_meet
              all_goals exact ⟨congrArg Value.bool (by rw [HF.out]; rfl), hI⟩
        -- C>>
      · -- <<B
        as_aux_lemma =>
          cases ok1
          · go_wp2
            all_goals go_meet
            all_goals exact ⟨rfl, I1.out⟩
          · go_wp2
            all_goals go_meet
            all_goals (refine ⟨congrArg Value.bool ?_, I1.out⟩; rw [HK.out]; clear c35 c36 c37 c38 c39; simp_all [beq_cast] <;> omega)
        -- B>>
    case rest =>
      obtain ⟨rfl, hI⟩ := hcut
      have I2 := Lib.hid hI
      obtain ⟨ok, hok⟩ : ∃ b, b = (ok1 && ok2) := ⟨_, rfl⟩
      have hrk : rokS s = ok := by rw [HRK.out.1, hok]
      have HRO := Lib.hid hrk
      have hok0 : ok = (ok1 && ok2) := hok
      rw [← hok]
      clear hI hok hok0 hrk I1 c35 c36 c37 c38 c39 HK HE
      cases ok
      · go_wp2
        go_ret2
        exact ⟨.inl ⟨HRO.out, rfl⟩, I2.out.bel⟩
      · have hB3 : Below wc.heap.size wc (wc.alloc (.cells ((List.replicate 32 (0 : UInt8)).map B8).toArray 22)) := (Below.refl _ _).alloc (Nat.le_refl _) _
        have HZ := Lib.hid (And.intro (ArrB.new wc 22 (List.replicate 32 0)) (I2.out.below hB3))
        have hlw := I2.out.lt
        clear hB3
        go_upto_region 8 with (first
          | (refine wpList_load_mid rfl 22 (.tmp 104) rfl w.heap.size 0 rfl (s.R.map B8) _ (I2.out.b.rnd I2.out.i) Try.underlying22 rfl (by rw [List.length_map, HRL.out]; exact Try.infoB32) ?_)
          | (refine st_arrB rfl 22 (.tmp 5) _ rfl wc.heap.size s.R rfl rfl _ _ HZ.out.1 (by rw [HRL.out]; exact Try.infoB32) (by rw [HRL.out]; rfl) ?_; intro w5 hA5 hO5))
        have hsz5 := hO5.size
        rw [World.size_alloc] at hsz5
        have hI5 : RI w M s z w5 := HZ.out.2.only hO5 hM (by intro k hk e; omega)
        have H5 := Lib.hid (And.intro hI5 hA5)
        have c37 := hI5.b.c37 hI5.i
        clear HZ I2 hI5 hA5 hO5
        generalize wc.heap.size = q at *
        have hrn : rndS s = if s.retry then retryL else s.R := rfl
        obtain ⟨re, hre⟩ : ∃ re, re = s.retry := ⟨_, rfl⟩
        rw [← hre] at c37 hrn
        have HRN := Lib.hid hrn
        have HRE := Lib.hid hre
        clear hrn hre
        go_upto_if 107 with (fail)
        go_cut [5] (fun v5 wx => v5 = .pointer (some ⟨q, 0, none⟩) ∧ RJ w M s z q wx ∧ q < wx.heap.size)
        case first =>
          cases re
          · go_wp2
            go_meet
            exact ⟨rfl, ⟨H5.out.1, by rw [HRN.out, if_neg Bool.false_ne_true]; exact H5.out.2, hlw⟩, by omega⟩
          · go_wp2_with (first
              | (go_at_call 37; refine (rretry_c _).mono ?_; rintro e w6 ⟨rfl, b6⟩; have HA6 := Lib.hid (And.intro (H5.out.2.below b6) (H5.out.1.below b6)); have hsz6 := b6.size; clear b6)
              | (refine st_arrB rfl 22 (.tmp 5) _ rfl q retryL rfl rfl _ _ HA6.out.1 (by rw [retryL_len]; exact Try.infoB32) (by rw [retryL_len]; exact HRL.out) ?_; intro w7 hA7 hO7; have hsz7 := hO7.size))
            go_meet
            exact ⟨rfl, ⟨HA6.out.2.only hO7 hM (by intro k hk e; omega), by rw [HRN.out, if_pos trivial]; exact hA7, hlw⟩, by omega⟩
        case rest =>
          obtain ⟨rfl, hJ, hqw⟩ := hcut
          have J0 := Lib.hid hJ
          have c34 := hJ.i.b.c34 hJ.i.i
          have hl2 : s.key.length = z.n2 := hJ.i.i.s2.1
          have hl3 : s.cook.length = z.n3 := hJ.i.i.s3.1
          have hl1 : s.ses.length = z.n1 := hJ.i.i.s1.1
          clear hJ H5
          have hbnd : s.ses.length ≤ 32 ∧ s.key.length ≤ 64 ∧ s.cook.length ≤ 64 := rokS_le HRO.out
          have hvS : vS s = if re then u16L s.grp else u16L s.grp ++ vecL 2 s.key := by rw [HRE.out]; rfl
          have hcel : ∀ wx, RJ w M s z q wx → (wx.cell? ⟨w.heap.size, 35, none⟩ = some (.int .i64 s.grp) ∧ wx.cell? ⟨w.heap.size, 36, none⟩ = some (.slice z.p2 z.n2 z.c2) ∧ wx.cell? ⟨w.heap.size, 37, none⟩ = some (.bool re) ∧ wx.cell? ⟨w.heap.size, 38, none⟩ = some (.slice z.p3 z.n3 z.c3) ∧ wx.cell? ⟨w.heap.size, 39, none⟩ = some (.int .i64 s.psk)) := by
            intro wx h
            rw [HRE.out]
            exact ⟨h.i.b.c35 h.i.i, h.i.b.c36 h.i.i, h.i.b.c37 h.i.i, h.i.b.c38 h.i.i, h.i.b.c39 h.i.i⟩
          have CEL := Lib.hid hcel
          have HVS := Lib.hid hvS
          have HLN := Lib.hid (And.intro hbnd (And.intro hl1 (And.intro hl2 hl3)))
          clear hcel hvS hbnd hl1 hl2 hl3
          go_upto_region 11 with (first
            | (go_at_call 40; refine (u16_c s.ver _).mono ?_; rintro e w1 ⟨g1, n1, c1, rfl, l1, h1, h2, h3, h4, h5, h6⟩; have H1 := Lib.hid (And.intro l1 (And.intro h5 (J0.out.below h6))); have hz1 := h6.size; clear l1 h5 h6)
            | (go_at_call 39; refine (rext_c 43 (fun k => k = g1) _ n1 c1 (u16L s.ver) _ H1.out.2.1.rd (by intro h; cases h) (by rw [u16L_len]; omega) H1.out.1).mono ?_; rintro e w2 ⟨g2, n2, c2, rfl, l2, k1, k2, k3, k4, k5, k6⟩; have hz2 := k6.size; have H2 := Lib.hid (And.intro (show (e1S s).length = n2 by rw [← l2, ← H1.out.1]; rfl) (And.intro (show Own w2 g2 (.slice (some ⟨g2, 0, none⟩) n2 c2) (e1S s) by have h := k5; rw [← H1.out.1] at h; exact h) (H1.out.2.2.below k6))); clear l2 k5 k6))
          clear J0
          obtain ⟨c35, c36, c37, c38, c39⟩ := CEL.out _ H2.out.2.2
          go_upto_if 116 with (fail)
          go_cut [6, 7] (fun v6 v7 wx => ER w M s z q (e2S s) v6 wx)
          case first =>
            -- <<D
            as_aux_lemma =>
              by_cases hg : s.grp = 0
              · have hgb : (s.grp != 0) = false := by simpa using hg
                have HG := Lib.hid hg
                clear hg
                go_wp2
                go_meet
                refine ⟨⟨g2, n2, c2, rfl, ?_, by omega, ?_⟩, H2.out.2.2, by omega⟩
                · unfold e2S; rw [if_pos HG.out]; exact H2.out.1
                · unfold e2S; rw [if_pos HG.out]; exact H2.out.2.1
              · have hgb : (s.grp != 0) = true := by simpa using hg
                have he : e2S s = e1S s ++ rextL 51 (vS s) := by unfold e2S; rw [if_neg hg]
                have HE := Lib.hid he
                clear hg he
                cases re
                · have hv : vS s = u16L s.grp ++ vecL 2 s.key := by rw [HVS.out, if_neg Bool.false_ne_true]
                  have HV := Lib.hid hv
                  clear hv
                  go_wp2_with (first
                    | (go_at_call 40; refine (u16_c s.grp _).mono ?_; rintro e w3 ⟨g3, n3, c3, rfl, l3, h1, h2, h3, h4, h5, h6⟩; have H3 := Lib.hid (And.intro l3 (And.intro h5 (And.intro (H2.out.2.2.below h6) (Own.keep H2.out.2.1 h6)))); have hz3 := h6.size; clear l3 h5 h6 c35 c36 c37 c38 c39; obtain ⟨c35, c36, c37, c38, c39⟩ := CEL.out _ H3.out.2.2.1)
                    | (go_at_call 41; refine (vec2_c (· < M) z.p2 z.n2 z.c2 s.key _ H3.out.2.2.1.i.i.s2.2.1 H3.out.2.2.1.i.i.s2.2.2 (by have := HLN.out.1.2.1; omega) HLN.out.2.2.1).mono ?_; rintro e w4 ⟨g4, n4, c4, rfl, l4, h1, h2, h3, h4, h5, h6⟩; have H4 := Lib.hid (And.intro l4 (And.intro h5 (And.intro (H3.out.2.2.1.below h6) (And.intro (Own.keep H3.out.2.2.2 h6) (Own.keep H3.out.2.1 h6))))); have hz4 := h6.size; clear l4 h5 h6)
                    | (at_builtin; have hq := H6; refine wpList_appE rfl _ _ rfl g2 n2 c2 (e1S s) rfl H6.out.2.2.2 (by unfold e1S; rw [rextL_len]; omega) (fun k => k = g6) _ n6 c6 (rextL 51 (vS s)) rfl H6.out.1 (by intro h; cases h) H6.out.2.1.rd (by unfold e1S; rw [rextL_len, rextL_len, HV.out, List.length_append, u16L_len, vecL_len, u16L_len]; have := HLN.out.1.2.1; omega) q (by omega) (by omega) ?_; intro g7 n7 c7 w7 l7 h7 h5 ho; have H7 := Lib.hid (And.intro l7 (And.intro h5 (H6.out.2.2.1.only ho hM))); have hz7 := ho.size; clear l7 h5 ho)
                    | (at_builtin; refine wpList_appE rfl _ _ rfl g3 n3 c3 (u16L s.grp) rfl H4.out.2.2.2.2 (by rw [u16L_len]; omega) (fun k => k = g4) _ n4 c4 (be z.n2 2 ++ s.key) rfl H4.out.1 (by intro h; cases h) H4.out.2.1.rd (by rw [u16L_len, List.length_append, be_length]; have := HLN.out.1.2.1; omega) g2 (by omega) (by omega) ?_; intro g5 n5 c5 w5 l5 h7 h5 ho; have H5 := Lib.hid (And.intro (show (vS s).length = n5 by rw [HV.out, ← l5, ← HLN.out.2.2.1]; rfl) (And.intro (show Own w5 g5 (.slice (some ⟨g5, 0, none⟩) n5 c5) (vS s) by rw [HV.out]; have h := h5; rw [← HLN.out.2.2.1] at h; exact h) (And.intro (H4.out.2.2.1.only (ho.mono (fun k _ hk => by omega)) hM) (H4.out.2.2.2.1.only ho (by omega))))); have hz5 := ho.size; clear l5 h5 ho)
                    | (go_at_call 39; refine (rext_c 51 (fun k => k = g5) _ n5 c5 (vS s) _ H5.out.2.1.rd (by intro h; cases h) (by rw [HV.out, List.length_append, u16L_len, vecL_len]; have := HLN.out.1.2.1; omega) H5.out.1).mono ?_; rintro e w6 ⟨g6, n6, c6, rfl, l6, h1, h2, h3, h4, h5, h6⟩; have H6 := Lib.hid (And.intro (show (rextL 51 (vS s)).length = n6 by rw [← l6, ← H5.out.1]; rfl) (And.intro (show Own w6 g6 (.slice (some ⟨g6, 0, none⟩) n6 c6) (rextL 51 (vS s)) by have h := h5; rw [← H5.out.1] at h; exact h) (And.intro (H5.out.2.2.1.below h6) (Own.keep H5.out.2.2.2 h6)))); have hz6 := h6.size; clear l6 h5 h6))
                  go_meet
                  rw [HE.out]
                  exact ⟨⟨g7, n7, c7, rfl, H7.out.1, h7, H7.out.2.1⟩, H7.out.2.2, by omega⟩
                · have hv : vS s = u16L s.grp := by rw [HVS.out, if_pos rfl]
                  have HV := Lib.hid hv
                  clear hv
                  go_wp2_with (first
                    | (go_at_call 40; refine (u16_c s.grp _).mono ?_; rintro e w3 ⟨g3, n3, c3, rfl, l3, h1, h2, h3, h4, h5, h6⟩; have H3 := Lib.hid (And.intro l3 (And.intro h5 (And.intro (H2.out.2.2.below h6) (Own.keep H2.out.2.1 h6)))); have hz3 := h6.size; clear l3 h5 h6 c35 c36 c37 c38 c39; obtain ⟨c35, c36, c37, c38, c39⟩ := CEL.out _ H3.out.2.2.1)
                    | (at_builtin; refine wpList_appE rfl _ _ rfl g2 n2 c2 (e1S s) rfl H6.out.2.2.2 (by unfold e1S; rw [rextL_len]; omega) (fun k => k = g6) _ n6 c6 (rextL 51 (vS s)) rfl H6.out.1 (by intro h; cases h) H6.out.2.1.rd (by unfold e1S; rw [rextL_len, rextL_len, HV.out, u16L_len, u16L_len]; omega) q (by omega) (by omega) ?_; intro g7 n7 c7 w7 l7 h7 h5 ho; have H7 := Lib.hid (And.intro l7 (And.intro h5 (H6.out.2.2.1.only ho hM))); have hz7 := ho.size; clear l7 h5 ho)
                    | (go_at_call 39; refine (rext_c 51 (fun k => k = g3) _ n3 c3 (u16L s.grp) _ H3.out.2.1.rd (by intro h; cases h) (by rw [u16L_len]; omega) H3.out.1).mono ?_; rintro e w6 ⟨g6, n6, c6, rfl, l6, h1, h2, h3, h4, h5, h6⟩; have H6 := Lib.hid (And.intro (show (rextL 51 (vS s)).length = n6 by rw [← l6, ← H3.out.1, HV.out]; rfl) (And.intro (show Own w6 g6 (.slice (some ⟨g6, 0, none⟩) n6 c6) (rextL 51 (vS s)) by rw [HV.out]; have h := h5; rw [← H3.out.1] at h; exact h) (And.intro (H3.out.2.2.1.below h6) (Own.keep H3.out.2.2.2 h6)))); have hz6 := h6.size; clear l6 h5 h6))
                  go_meet
                  rw [HE.out]
                  exact ⟨⟨g7, n7, c7, rfl, H7.out.1, h7, H7.out.2.1⟩, H7.out.2.2, by omega⟩
            -- D>>
          case rest =>
            obtain ⟨⟨ga, na, ca, rfl, hla, hga, hOa⟩, hJa, hqa⟩ := hcut
            have hbe : (e2S s).length ≤ 100 := e2S_le HLN.out.1.2.1
            have HA := Lib.hid (And.intro hla (And.intro hOa (And.intro hJa hbe)))
            have hna : 0 < na := by rw [← hla]; exact e2S_pos s
            clear hla hOa hJa hbe H2 c35 c36 c37 c38 c39
            obtain ⟨c35, c36, c37, c38, c39⟩ := CEL.out _ HA.out.2.2.1
            go_upto_if 137 with (fail)
            go_cut [6] (fun v6 wx => ER w M s z q (e3S s) v6 wx)
            case first =>
              -- <<E
              as_aux_lemma =>
                by_cases hg : z.n3 = 0
                · have hgb : ¬ (0 : Int) < (z.n3 : Int) := by omega
                  have hgd : decide (0 < z.n3) = false := decide_eq_false (by omega)
                  have HG := Lib.hid (show s.cook.length = 0 by rw [HLN.out.2.2.2]; exact hg)
                  clear hg
                  go_wp2
                  go_meet
                  refine ⟨⟨ga, na, ca, rfl, ?_, by omega, ?_⟩, HA.out.2.2.1, by omega⟩
                  · unfold e3S; rw [if_pos HG.out]; exact HA.out.1
                  · unfold e3S; rw [if_pos HG.out]; exact HA.out.2.1
                · have hgb : (0 : Int) < (z.n3 : Int) := by omega
                  have hgd : decide (0 < z.n3) = true := decide_eq_true (by omega)
                  have he : e3S s = e2S s ++ rextL 44 (vecL 2 s.cook) := by unfold e3S; rw [if_neg (by rw [HLN.out.2.2.2]; exact hg)]
                  have HE := Lib.hid he
                  clear hg he
                  go_wp2_with (first
                    | (go_at_call 41; refine (vec2_c (· < M) z.p3 z.n3 z.c3 s.cook _ HA.out.2.2.1.i.i.s3.2.1 HA.out.2.2.1.i.i.s3.2.2 (by have := HLN.out.1.2.2; omega) HLN.out.2.2.2).mono ?_; rintro e w4 ⟨g4, n4, c4, rfl, l4, h1, h2, h3, h4, h5, h6⟩; have H4 := Lib.hid (And.intro (show (vecL 2 s.cook).length = n4 by rw [← l4, ← HLN.out.2.2.2]; rfl) (And.intro (show Own w4 g4 (.slice (some ⟨g4, 0, none⟩) n4 c4) (vecL 2 s.cook) by have h := h5; rw [← HLN.out.2.2.2] at h; exact h) (And.intro (HA.out.2.2.1.below h6) (Own.keep HA.out.2.1 h6)))); have hz4 := h6.size; clear l4 h5 h6)
                    | (at_builtin; refine wpList_appE rfl _ _ rfl ga na ca (e2S s) rfl H6.out.2.2.2 (by rw [HA.out.1]; omega) (fun k => k = g6) _ n6 c6 (rextL 44 (vecL 2 s.cook)) rfl H6.out.1 (by intro h; cases h) H6.out.2.1.rd (by rw [rextL_len, vecL_len]; have := HLN.out.1.2.2; have := HA.out.2.2.2; omega) q (by omega) (by omega) ?_; intro g7 n7 c7 w7 l7 h7 h5 ho; have H7 := Lib.hid (And.intro l7 (And.intro h5 (H6.out.2.2.1.only ho hM))); have hz7 := ho.size; clear l7 h5 ho)
                    | (go_at_call 39; refine (rext_c 44 (fun k => k = g4) _ n4 c4 (vecL 2 s.cook) _ H4.out.2.1.rd (by intro h; cases h) (by rw [vecL_len]; have := HLN.out.1.2.2; omega) H4.out.1).mono ?_; rintro e w6 ⟨g6, n6, c6, rfl, l6, h1, h2, h3, h4, h5, h6⟩; have H6 := Lib.hid (And.intro (show (rextL 44 (vecL 2 s.cook)).length = n6 by rw [← l6, ← H4.out.1]; rfl) (And.intro (show Own w6 g6 (.slice (some ⟨g6, 0, none⟩) n6 c6) (rextL 44 (vecL 2 s.cook)) by have h := h5; rw [← H4.out.1] at h; exact h) (And.intro (H4.out.2.2.1.below h6) (Own.keep H4.out.2.2.2 h6)))); have hz6 := h6.size; clear l6 h5 h6))
                  go_meet
                  rw [HE.out]
                  exact ⟨⟨g7, n7, c7, rfl, H7.out.1, h7, H7.out.2.1⟩, H7.out.2.2, by omega⟩
              -- E>>
            case rest =>
              obtain ⟨⟨gb, nb, cb, rfl, hlb, hgb, hOb⟩, hJb, hqb⟩ := hcut
              have hbe : (e3S s).length ≤ 200 := e3S_le HLN.out.1.2
              have HB := Lib.hid (And.intro hlb (And.intro hOb (And.intro hJb hbe)))
              have hnb : 0 < nb := by rw [← hlb]; exact e3S_pos s
              clear hlb hOb hJb hbe HA c35 c36 c37 c38 c39
              obtain ⟨c35, c36, c37, c38, c39⟩ := CEL.out _ HB.out.2.2.1
              go_upto_if 146 with (fail)
              go_cut [6] (fun v6 wx => ER w M s z q (e4S s) v6 wx)
              case first =>
                -- <<F
                as_aux_lemma =>
                  by_cases hg : 0 ≤ s.psk
                  · have hgd : decide (0 ≤ s.psk) = true := decide_eq_true hg
                    have he : e4S s = e3S s ++ rextL 41 (u16L s.psk) := by unfold e4S; rw [if_pos hg]
                    have HE := Lib.hid he
                    clear he
                    go_wp2_with (first
                      | (go_at_call 40; refine (u16_c s.psk _).mono ?_; rintro e w3 ⟨g3, n3, c3, rfl, l3, h1, h2, h3, h4, h5, h6⟩; have H3 := Lib.hid (And.intro l3 (And.intro h5 (And.intro (HB.out.2.2.1.below h6) (Own.keep HB.out.2.1 h6)))); have hz3 := h6.size; clear l3 h5 h6)
                      | (at_builtin; refine wpList_appE rfl _ _ rfl gb nb cb (e3S s) rfl H6.out.2.2.2 (by rw [HB.out.1]; omega) (fun k => k = g6) _ n6 c6 (rextL 41 (u16L s.psk)) rfl H6.out.1 (by intro h; cases h) H6.out.2.1.rd (by rw [rextL_len, u16L_len]; have := HB.out.2.2.2; omega) q (by omega) (by omega) ?_; intro g7 n7 c7 w7 l7 h7 h5 ho; have H7 := Lib.hid (And.intro l7 (And.intro h5 (H6.out.2.2.1.only ho hM))); have hz7 := ho.size; clear l7 h5 ho)
                      | (go_at_call 39; refine (rext_c 41 (fun k => k = g3) _ n3 c3 (u16L s.psk) _ H3.out.2.1.rd (by intro h; cases h) (by rw [u16L_len]; omega) H3.out.1).mono ?_; rintro e w6 ⟨g6, n6, c6, rfl, l6, h1, h2, h3, h4, h5, h6⟩; have H6 := Lib.hid (And.intro (show (rextL 41 (u16L s.psk)).length = n6 by rw [← l6, ← H3.out.1]; rfl) (And.intro (show Own w6 g6 (.slice (some ⟨g6, 0, none⟩) n6 c6) (rextL 41 (u16L s.psk)) by have h := h5; rw [← H3.out.1] at h; exact h) (And.intro (H3.out.2.2.1.below h6) (Own.keep H3.out.2.2.2 h6)))); have hz6 := h6.size; clear l6 h5 h6))
                    go_meet
                    rw [HE.out]
                    exact ⟨⟨g7, n7, c7, rfl, H7.out.1, h7, H7.out.2.1⟩, H7.out.2.2, by omega⟩
                  · have hgd : decide (0 ≤ s.psk) = false := decide_eq_false hg
                    have he : e4S s = e3S s := by unfold e4S; rw [if_neg hg]
                    have HE := Lib.hid he
                    clear he
                    go_wp2
                    go_meet
                    rw [HE.out]
                    exact ⟨⟨gb, nb, cb, rfl, HB.out.1, by omega, HB.out.2.1⟩, HB.out.2.2.1, by omega⟩
                -- F>>
              case rest =>
                obtain ⟨⟨gc, nc, cc, rfl, hlc, hgc, hOc⟩, hJc, hqc⟩ := hcut
                have hce : (e4S s).length ≤ 300 := e4S_le HLN.out.1.2
                have hgl : gc < wc.heap.size := by
                  obtain ⟨p', c', he, _, _, _, _, h6⟩ := hOc.form
                  cases he
                  exact (h6 _ rfl).2
                have hO3 : Own (wc.alloc (.cells #[.int .u8 3, .int .u8 3] 5)) wc.heap.size (.slice (some ⟨wc.heap.size, 0, none⟩) 2 2) [3, 3] := Own.lit wc [3, 3] (by simp)
                have hB3 : Below wc.heap.size wc (wc.alloc (.cells #[.int .u8 3, .int .u8 3] 5)) := (Below.refl _ _).alloc (Nat.le_refl _) _
                have hR3 : Rd (wc.alloc (.cells #[.int .u8 3, .int .u8 3] 5)) (· = q) (some ⟨q, 0, none⟩) (rndS s) := ArrB.rd (hJc.below hB3).a
                have hrl : (rndS s).length = 32 := rndS_len HRL.out
                have HC := Lib.hid (And.intro hlc (And.intro hOc (And.intro hJc (And.intro hce (And.intro hO3 (And.intro hB3 (And.intro hR3 hrl)))))))
                clear hlc hOc hJc hce hO3 hB3 hR3 hrl HB c35 c36 c37 c38 c39
                go_upto_region 21 with (at_builtin; refine wpList_appE rfl _ _ rfl wc.heap.size 2 2 [3, 3] rfl HC.out.2.2.2.2.1 (by simp) (· = q) (some ⟨q, 0, none⟩) 32 32 (rndS s) rfl HC.out.2.2.2.2.2.2.2 (by intro h; cases h) HC.out.2.2.2.2.2.2.1 (by rw [HC.out.2.2.2.2.2.2.2]; simp) (wc.heap.size - 1) (by omega) (by rw [World.size_alloc]; omega) ?_; intro g8 n8 c8 w8 l8 h8 hO8 ho8; have H8 := Lib.hid (And.intro l8 (And.intro hO8 ho8)); have hz8 := ho8.size; clear l8 hO8 ho8)
                rw [World.size_alloc] at hz8
                have hb8 : Below wc.heap.size wc w8 := below_only HC.out.2.2.2.2.2.1 (by rw [World.size_alloc]; omega) H8.out.2.2 (by intro k hk e; omega)
                have hS0 : St wc w8.drew 1000 [(g8, (some ⟨g8, 0, none⟩, n8, c8), [3, 3] ++ rndS s)] := by
                  have hg8 : g8 < w8.heap.size := by
                    obtain ⟨p', c', he, _, _, _, _, h6⟩ := H8.out.2.1.form
                    cases he
                    exact (h6 _ rfl).2
                  refine ⟨hb8.drew, ?_, ?_⟩
                  · intro i x hx
                    rcases i with _ | i
                    · cases hx
                      exact ⟨H8.out.2.1.only ((Only.refl (fun _ => False) _).drew) (fun h => h), H8.out.1, by show wc.heap.size ≤ g8; omega, hg8, by simp, by show ([3, 3] ++ rndS s).length ≤ 1000; rw [List.length_append, HC.out.2.2.2.2.2.2.2]; simp, by simp⟩
                    · simp at hx
                  · intro i j x y hx hy hij
                    rcases i with _ | i <;> rcases j with _ | j <;> simp_all
                have HW := Lib.hid (And.intro HC.out.2.2.1 hb8)
                have hS := hS0
                have d32 := HC.out.2.2.1.i.b.c32 HC.out.2.2.1.i.i
                have d33 := HC.out.2.2.1.i.b.c33 HC.out.2.2.1.i.i
                have HD := Lib.hid (And.intro d32 d33)
                have hqlt : w.heap.size < wc.heap.size := by have := hlw; omega
                clear hS0 d32 d33 hb8 H8
                go_region_held3 (fun w' => w'.cell? ⟨w.heap.size, 32, none⟩ = some (.slice z.p1 z.n1 z.c1) ∧ w'.cell? ⟨w.heap.size, 33, none⟩ = some (.int .i64 s.suite)) (first | exact hS.cells HD.out ⟨hqlt, hqlt⟩ | exact (hS.one (by omega)).cells HD.out ⟨hqlt, hqlt⟩ | exact (hS.oned (by omega)).cells HD.out ⟨hqlt, hqlt⟩)
                  (first
                    | (go_at_call 40; have hq := q1; (with_reducible refine at_alloc ?_); have hS := hS.one (by omega); refine (hS.call (u16_c s.suite _) (by rw [u16L_len]; omega) (by rw [u16L_len]; omega)).mono ?_; rintro e w2 ⟨g2, n2, c2, rfl, q2, hS⟩)
                    | (go_at_call 40; have hq := q1; (with_reducible refine at_alloc_drew ?_); have hS := hS.oned (by omega); refine (hS.call (u16_c s.suite _) (by rw [u16L_len]; omega) (by rw [u16L_len]; omega)).mono ?_; rintro e w2 ⟨g2, n2, c2, rfl, q2, hS⟩)
                    | (go_at_call 40; have hq := q1; refine (hS.call (u16_c s.suite _) (by rw [u16L_len]; omega) (by rw [u16L_len]; omega)).mono ?_; rintro e w2 ⟨g2, n2, c2, rfl, q2, hS⟩)
                    | (go_at_call 41; (with_reducible refine at_alloc ?_); have hS := hS.one (by omega); refine (hS.call (vec1_c (· < M) z.p1 z.n1 z.c1 s.ses _ ((HW.out.1.i.i.s1.2.1).below hS.1) HW.out.1.i.i.s1.2.2 (by have := HLN.out.1.1; omega) HLN.out.2.1) (by rw [List.length_append, be_length]; omega) (by rw [List.length_append, be_length]; have := HLN.out.1.1; omega)).mono ?_; rintro e w1 ⟨g1, n1, c1, rfl, q1, hS⟩)
                    | (go_at_call 41; (with_reducible refine at_alloc_drew ?_); have hS := hS.oned (by omega); refine (hS.call (vec1_c (· < M) z.p1 z.n1 z.c1 s.ses _ ((HW.out.1.i.i.s1.2.1).below hS.1) HW.out.1.i.i.s1.2.2 (by have := HLN.out.1.1; omega) HLN.out.2.1) (by rw [List.length_append, be_length]; omega) (by rw [List.length_append, be_length]; have := HLN.out.1.1; omega)).mono ?_; rintro e w1 ⟨g1, n1, c1, rfl, q1, hS⟩)
                    | (go_at_call 41; refine (hS.call (vec1_c (· < M) z.p1 z.n1 z.c1 s.ses _ ((HW.out.1.i.i.s1.2.1).below hS.1) HW.out.1.i.i.s1.2.2 (by have := HLN.out.1.1; omega) HLN.out.2.1) (by rw [List.length_append, be_length]; omega) (by rw [List.length_append, be_length]; have := HLN.out.1.1; omega)).mono ?_; rintro e w1 ⟨g1, n1, c1, rfl, q1, hS⟩)
                    | ((with_reducible refine at_alloc2 ?_); have hS := hS.one (by omega); refine hS.step 1 (by decide) rfl rfl (by omega) rfl (.tmp 156) (.tmp 159) rfl ?_ ?_ ?_; (focus (simp [Act.eval]; done)); (focus (simp [Act.eval]; done)); intro g3 n3 c3 w3 hl3 hS)
                    | ((with_reducible refine at_alloc2 ?_); have hS := hS.one (by omega); refine hS.step 2 (by decide) rfl rfl (by omega) rfl (.tmp 156) (.tmp 159) rfl ?_ ?_ ?_; (focus (simp [Act.eval]; done)); (focus (simp [Act.eval]; done)); intro g3 n3 c3 w3 hl3 hS)
                    | ((with_reducible refine at_alloc2 ?_); have hS := hS.one (by omega); refine hS.step 3 (by decide) rfl rfl (by omega) rfl (.tmp 156) (.tmp 159) rfl ?_ ?_ ?_; (focus (simp [Act.eval]; done)); (focus (simp [Act.eval]; done)); intro g3 n3 c3 w3 hl3 hS)
                    | ((with_reducible refine at_alloc2 ?_); have hS := hS.one (by omega); refine hS.step 1 (by decide) rfl rfl (by omega) rfl (.tmp 160) (.tmp 163) rfl ?_ ?_ ?_; (focus (simp [Act.eval]; done)); (focus (simp [Act.eval]; done)); intro g3 n3 c3 w3 hl3 hS)
                    | ((with_reducible refine at_alloc2 ?_); have hS := hS.one (by omega); refine hS.step 2 (by decide) rfl rfl (by omega) rfl (.tmp 160) (.tmp 163) rfl ?_ ?_ ?_; (focus (simp [Act.eval]; done)); (focus (simp [Act.eval]; done)); intro g3 n3 c3 w3 hl3 hS)
                    | ((with_reducible refine at_alloc2 ?_); have hS := hS.one (by omega); refine hS.step 3 (by decide) rfl rfl (by omega) rfl (.tmp 160) (.tmp 163) rfl ?_ ?_ ?_; (focus (simp [Act.eval]; done)); (focus (simp [Act.eval]; done)); intro g3 n3 c3 w3 hl3 hS)
                    | ((with_reducible refine at_alloc2 ?_); have hS := hS.one (by omega); refine hS.step 1 (by decide) rfl rfl (by omega) rfl (.tmp 164) (.tmp 165) rfl ?_ ?_ ?_; (focus (simp [Act.eval]; done)); (focus (simp [Act.eval]; done)); intro g3 n3 c3 w3 hl3 hS)
                    | ((with_reducible refine at_alloc2 ?_); have hS := hS.one (by omega); refine hS.step 2 (by decide) rfl rfl (by omega) rfl (.tmp 164) (.tmp 165) rfl ?_ ?_ ?_; (focus (simp [Act.eval]; done)); (focus (simp [Act.eval]; done)); intro g3 n3 c3 w3 hl3 hS)
                    | ((with_reducible refine at_alloc2 ?_); have hS := hS.one (by omega); refine hS.step 3 (by decide) rfl rfl (by omega) rfl (.tmp 164) (.tmp 165) rfl ?_ ?_ ?_; (focus (simp [Act.eval]; done)); (focus (simp [Act.eval]; done)); intro g3 n3 c3 w3 hl3 hS)
                    | (refine hS.step 1 (by decide) rfl rfl (by omega) rfl (.tmp 156) (.tmp 159) rfl ?_ ?_ ?_; (focus (simp [Act.eval]; done)); (focus (simp [Act.eval]; done)); intro g3 n3 c3 w3 hl3 hS)
                    | (refine hS.step 2 (by decide) rfl rfl (by omega) rfl (.tmp 156) (.tmp 159) rfl ?_ ?_ ?_; (focus (simp [Act.eval]; done)); (focus (simp [Act.eval]; done)); intro g3 n3 c3 w3 hl3 hS)
                    | (refine hS.step 3 (by decide) rfl rfl (by omega) rfl (.tmp 156) (.tmp 159) rfl ?_ ?_ ?_; (focus (simp [Act.eval]; done)); (focus (simp [Act.eval]; done)); intro g3 n3 c3 w3 hl3 hS)
                    | (refine hS.step 1 (by decide) rfl rfl (by omega) rfl (.tmp 160) (.tmp 163) rfl ?_ ?_ ?_; (focus (simp [Act.eval]; done)); (focus (simp [Act.eval]; done)); intro g3 n3 c3 w3 hl3 hS)
                    | (refine hS.step 2 (by decide) rfl rfl (by omega) rfl (.tmp 160) (.tmp 163) rfl ?_ ?_ ?_; (focus (simp [Act.eval]; done)); (focus (simp [Act.eval]; done)); intro g3 n3 c3 w3 hl3 hS)
                    | (refine hS.step 3 (by decide) rfl rfl (by omega) rfl (.tmp 160) (.tmp 163) rfl ?_ ?_ ?_; (focus (simp [Act.eval]; done)); (focus (simp [Act.eval]; done)); intro g3 n3 c3 w3 hl3 hS)
                    | (refine hS.step 1 (by decide) rfl rfl (by omega) rfl (.tmp 164) (.tmp 165) rfl ?_ ?_ ?_; (focus (simp [Act.eval]; done)); (focus (simp [Act.eval]; done)); intro g3 n3 c3 w3 hl3 hS)
                    | (refine hS.step 2 (by decide) rfl rfl (by omega) rfl (.tmp 164) (.tmp 165) rfl ?_ ?_ ?_; (focus (simp [Act.eval]; done)); (focus (simp [Act.eval]; done)); intro g3 n3 c3 w3 hl3 hS)
                    | (refine hS.step 3 (by decide) rfl rfl (by omega) rfl (.tmp 164) (.tmp 165) rfl ?_ ?_ ?_; (focus (simp [Act.eval]; done)); (focus (simp [Act.eval]; done)); intro g3 n3 c3 w3 hl3 hS))
                all_goals
                  have hrow : Own w3 g3 (.slice (some ⟨g3, 0, none⟩) n3 c3) ((([3, 3] ++ rndS s) ++ (be z.n1 1 ++ s.ses)) ++ u16L s.suite ++ [0]) := (hS.2.1 0 _ rfl).1
                  have hge3 : wc.heap.size ≤ g3 := (hS.2.1 0 _ rfl).2.2.1
                  have hlt3 : g3 < w3.heap.size := (hS.2.1 0 _ rfl).2.2.2.1
                  have hll : ((([3, 3] ++ rndS s) ++ (be z.n1 1 ++ s.ses)) ++ u16L s.suite ++ [0]).length ≤ 100 := by
                    have h1 := HC.out.2.2.2.2.2.2.2
                    have h2 := HLN.out.1.1
                    simp only [List.length_append, be_length, u16L_len, h1, List.length_cons, List.length_nil]
                    omega
                  have hlp : 0 < ((([3, 3] ++ rndS s) ++ (be z.n1 1 ++ s.ses)) ++ u16L s.suite ++ [0]).length := by rw [List.length_append]; simp
                  have hput : rputL s = ((([3, 3] ++ rndS s) ++ (be z.n1 1 ++ s.ses)) ++ u16L s.suite ++ [0]) ++ (be nc 2 ++ e4S s) := by
                    rw [← HLN.out.2.1, ← HC.out.1]
                    rfl
                  have H3 := Lib.hid (And.intro hrow (And.intro hll (And.intro hlp (And.intro hput (And.intro (Own.keep HC.out.2.1 hS.1) hS.1)))))
                  clear hrow hll hlp hput hS
                  go_wp2_with (first
                    | (go_at_call 41; refine (vec2_c (· = gc) _ nc cc (e4S s) _ H3.out.2.2.2.2.1.rd (by intro h; cases h) (by have := HC.out.2.2.2.1; omega) HC.out.1).mono ?_; rintro e w4 ⟨g4, n4, c4, rfl, l4, h1, h2, h3, h4, h5, h6⟩; have H4 := Lib.hid (And.intro l4 (And.intro h5 (And.intro (Own.keep H3.out.1 h6) (H3.out.2.2.2.2.2.trans (h6.mono H3.out.2.2.2.2.2.size))))); have hz4 := h6.size; clear l4 h5 h6)
                    | (at_builtin; refine wpList_appE rfl _ _ rfl g3 n3 c3 _ rfl H4.out.2.2.1 H3.out.2.2.1 (fun k => k = g4) _ n4 c4 (be nc 2 ++ e4S s) rfl H4.out.1 (by intro h; cases h) H4.out.2.1.rd (by have h2 := H3.out.2.1; have h3 : (be nc 2 ++ e4S s).length = (e4S s).length + 2 := (by rw [List.length_append, be_length]; omega); have h4 := HC.out.2.2.2.1; omega) w.heap.size (by omega) (by omega) ?_; intro g9 n9 c9 w9 l9 h9 h5 ho; have H9 := Lib.hid (And.intro l9 (And.intro h5 ho)); clear l9 h5 ho))
                  go_ret2
                  have hb1 := HC.out.2.2.1.i.bel.trans (H4.out.2.2.2.mono (Nat.le_of_lt hqlt))
                  refine ⟨.inr ⟨HRO.out, g9, n9, c9, rfl, ?_, by omega, ?_⟩, below_only hb1 hb1.size H9.out.2.2 (by intro k hk e; omega)⟩
                  · rw [H3.out.2.2.2.1]; exact H9.out.1
                  · rw [H3.out.2.2.2.1]; exact H9.out.2.1
end Go.Proofs.Ytegmimnhkohaoaa
