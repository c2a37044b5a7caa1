/-
  The contracts of relayref09.PutNew and PutVerify. Conditions: those of each.
-/
import Derived.Test.YtkgeecejgpekkaaBodB
namespace Go.Proofs.Ytkgeecejgpekkaa
open Go.RowKit Go.Kx
set_option linter.unusedVariables false
set_option linter.unusedSimpArgs false

/-- One row of the call's own: its block, its slice, its bytes. -/
abbrev Ow := Nat × (Option Addr × Nat × Nat) × List UInt8
/-- Rows of the call's own, each in a block of its own, of at most N bytes and of one at the least; what lay in W0 is as it was. -/
def St (W0 wx : World) (N : Nat) (os : List Ow) : Prop :=
  Below W0.heap.size W0 wx ∧ (∀ (i : Nat) (x : Ow), os[i]? = some x → Own wx x.1 (.slice x.2.1.1 x.2.1.2.1 x.2.1.2.2) x.2.2 ∧ x.2.2.length = x.2.1.2.1 ∧ W0.heap.size ≤ x.1 ∧ x.1 < wx.heap.size ∧ x.2.2 ≠ [] ∧ x.2.2.length ≤ N ∧ x.2.1.1 ≠ none)
    ∧ (∀ (i j : Nat) (x y : Ow), os[i]? = some x → os[j]? = some y → i ≠ j → x.1 ≠ y.1)

theorem St.push {W0 wx wy : World} {N : Nat} {os : List Ow} (h : St W0 wx N os) (hb : Below wx.heap.size wx wy) {x : Ow} (ho : Own wy x.1 (.slice x.2.1.1 x.2.1.2.1 x.2.1.2.2) x.2.2) (hl : x.2.2.length = x.2.1.2.1) (h1 : wx.heap.size ≤ x.1) (h2 : x.1 < wy.heap.size) (h3 : x.2.2 ≠ []) (h4 : x.2.2.length ≤ N) (h5 : x.2.1.1 ≠ none) : St W0 wy N (os ++ [x]) := by
  refine ⟨h.1.trans (hb.mono h.1.size), ?_, ?_⟩
  · intro i y hy
    rw [List.getElem?_append] at hy
    split at hy
    · obtain ⟨a, b, c, d, e, f, g⟩ := h.2.1 i y hy
      exact ⟨Own.keep a hb, b, c, Nat.lt_of_lt_of_le d hb.size, e, f, g⟩
    · have hx : x = y := by
        rcases hk : i - os.length with _ | k
        · rw [hk] at hy; simpa using hy
        · rw [hk] at hy; simp at hy
      subst hx
      exact ⟨ho, hl, Nat.le_trans h.1.size h1, h2, h3, h4, h5⟩
  · intro i j y z hy hz hij
    rw [List.getElem?_append] at hy hz
    split at hy <;> split at hz
    · exact h.2.2 i j y z hy hz hij
    · have hx : x = z := by
        rcases hk : j - os.length with _ | k
        · rw [hk] at hz; simpa using hz
        · rw [hk] at hz; simp at hz
      subst hx
      have := (h.2.1 i y hy).2.2.2.1
      omega
    · have hx : x = y := by
        rcases hk : i - os.length with _ | k
        · rw [hk] at hy; simpa using hy
        · rw [hk] at hy; simp at hy
      subst hx
      have := (h.2.1 j z hz).2.2.2.1
      omega
    · exfalso
      have e1 : i - os.length = 0 := by
        rcases hk : i - os.length with _ | k
        · rfl
        · rw [hk] at hy; simp at hy
      have e2 : j - os.length = 0 := by
        rcases hk : j - os.length with _ | k
        · rfl
        · rw [hk] at hz; simp at hz
      omega

theorem St.zz {W0 wx : World} {N : Nat} {os : List Ow} (h : St W0 wx N os) (hN : 2 ≤ N) : St W0 (wx.alloc (.cells #[.int .u8 0, .int .u8 0] 5)) N (os ++ [(wx.heap.size, (some ⟨wx.heap.size, 0, none⟩, 2, 2), [0, 0])]) := by
  refine h.push ((Below.refl _ _).alloc (Nat.le_refl _) _) ?_ rfl (Nat.le_refl _) (by simp) (by simp) (by simpa using hN) (by simp)
  exact ⟨⟨by simp, .inr ⟨wx.heap.size, 2, #[.int .u8 0, .int .u8 0], by simp, Nat.zero_le _, heap_alloc_new wx _, by simp, by simp [maxLen], by simp, by simp⟩⟩, .inr rfl⟩

theorem St.zzd {W0 wx : World} {N : Nat} {os : List Ow} (h : St W0 wx.drew N os) (hN : 2 ≤ N) : St W0 (wx.alloc (.cells #[.int .u8 0, .int .u8 0] 5)).drew N (os ++ [(wx.heap.size, (some ⟨wx.heap.size, 0, none⟩, 2, 2), [0, 0])]) := h.zz hN

theorem St.vec {W0 wx : World} {N : Nat} {os : List Ow} (h : St W0 wx N os) (W : Nat) (p : Option Addr) (n c : Nat) (l : List UInt8) (S : Nat → Prop) (hR : Rd wx S p l) (hp : p = none → c = 0) (hl : l.length = n) (hW : 1 ≤ W ∧ W ≤ 4) (hn : n < 256 ^ W) (hb : n ≤ 100000) (hN : n + 4 ≤ N) :
    Calls Try.prog 22 #[.slice p n c, .int .i64 (W : Int)] wx (fun e w' => ∃ g m k, e = .returned (.slice (some ⟨g, 0, none⟩) m k) ∧ (be n W ++ l).length = m ∧ St W0 w' N (os ++ [(g, (some ⟨g, 0, none⟩, m, k), be n W ++ l)])) := by
  refine (vecW_c S p n c l W wx hR hp hl hW hn hb).mono ?_
  rintro e w' ⟨g, m, k, rfl, q1, q2, q3, q4, q5, q6, q7⟩
  have hlen : (be n W ++ l).length = W + n := by rw [List.length_append, be_length, hl]
  refine ⟨g, m, k, rfl, q1, h.push (x := (g, (some ⟨g, 0, none⟩, m, k), be n W ++ l)) q7 q6 q1 q2 q3 ?_ ?_ (by simp)⟩
  · intro hh
    have := congrArg List.length hh
    simp only [List.length_nil] at this
    omega
  · show (be n W ++ l).length ≤ N
    omega

theorem St.app {W0 wx : World} {N : Nat} {os : List Ow} (h : St W0 wx N os) (j : Nat) {ga gb : Nat} {pa pb : Option Addr} {na ca nb cb : Nat} {la lb : List UInt8} (hj : 0 ≠ j) (ha : os[0]? = some (ga, (pa, na, ca), la)) (hb : os[j]? = some (gb, (pb, nb, cb), lb)) (hN : N + N ≤ 140737488355328) :
    ∃ g n c w', (Builtin.append_ #[23, 23] 23 #[.slice pa na ca, .slice pb nb cb]).run Try.prog wx = .ok (.slice (some ⟨g, 0, none⟩) n c) w' ∧ (la ++ lb).length = n ∧ St W0 w' (N + N) (os.set 0 (g, (some ⟨g, 0, none⟩, n, c), la ++ lb)) := by
  obtain ⟨oa, xa, a1, a2, a3, a4, a5⟩ := h.2.1 0 _ ha
  obtain ⟨ob, xb, b1, b2, b3, b4, b5⟩ := h.2.1 j _ hb
  have hne := h.2.2 0 j _ _ ha hb hj
  simp only at oa xa a1 a2 a3 a4 a5 ob xb b1 b2 b3 b4 b5 hne
  obtain ⟨g3, v3, w3, hr3, o3, hg3, hO3⟩ := run_append_bytes (P := Try.prog) wx 23 23 Try.underlying23 Try.info5 ga _ la oa (· = gb) pb nb cb lb xb (fun hh => absurd hh b5) ob.rd (by omega)
  have hnn : la ++ lb ≠ [] := by simp [a3]
  obtain ⟨c3, rfl, x1, x2, x3⟩ := o3.shape (by
    rintro rfl
    obtain ⟨_, _, hx, _⟩ := o3.form
    injection hx with _ hx _
    exact hnn (List.length_eq_zero_iff.1 hx.symm))
  refine ⟨g3, _, c3, w3, hr3, rfl, below_only h.1 h.1.size hO3 (by intro k hk e; omega), ?_, ?_⟩
  · intro i x hx
    by_cases hi : i = 0
    · subst hi
      rw [List.getElem?_set_self (by have := List.getElem?_eq_some_iff.1 ha; exact this.1)] at hx
      cases hx
      have := h.1.size
      exact ⟨o3, rfl, by rcases hg3 with hh | hh <;> simp only <;> omega, x3, hnn, by rw [List.length_append]; omega, by simp⟩
    · rw [List.getElem?_set_ne (by omega)] at hx
      obtain ⟨a, b, c, d, e, f, g⟩ := h.2.1 i x hx
      have hd : ¬ x.1 = ga := fun hh => h.2.2 i 0 _ _ hx ha hi hh
      exact ⟨a.only hO3 hd, b, c, Nat.lt_of_lt_of_le d hO3.size, e, by omega, g⟩
  · have key : ∀ (i : Nat) (x : Ow), i ≠ 0 → os[i]? = some x → x.1 ≠ g3 := by
      intro i x hi hx
      have h1 := (h.2.1 i x hx).2.2.2.1
      have h2 := h.2.2 i 0 _ _ hx ha hi
      simp only at h2
      rcases hg3 with hh | hh <;> omega
    have hlen := (List.getElem?_eq_some_iff.1 ha).1
    intro i k x y hx hy hik
    by_cases hi : i = 0
    · subst hi
      rw [List.getElem?_set_self hlen] at hx
      rw [List.getElem?_set_ne (by omega)] at hy
      cases hx
      exact fun hh => key k y (by omega) hy hh.symm
    · by_cases hk : k = 0
      · subst hk
        rw [List.getElem?_set_self hlen] at hy
        rw [List.getElem?_set_ne (by omega)] at hx
        cases hy
        exact key i x hi hx
      · rw [List.getElem?_set_ne (by omega)] at hx hy
        exact h.2.2 i k x y hx hy hik

theorem St.step {W0 wx : World} {N : Nat} {os : List Ow} (h : St W0 wx N os) (j : Nat) {ga gb : Nat} {pa pb : Option Addr} {na ca nb cb : Nat} {la lb : List UInt8} (hj : 0 ≠ j) (ha : os[0]? = some (ga, (pa, na, ca), la)) (hb : os[j]? = some (gb, (pb, nb, cb), lb)) (hN : N + N ≤ 140737488355328)
    {ops : Array Oper} {o : Oper} {a : Act} {K : Act → World → Prop} {Q : Exit → Act → World → Prop} {E : Prop} (hgd : o.guard = none) (s x : Operand)
    (ho : (o.op, o.type) = (.call { callee := .builtin .append, args := #[s, x], argTypes := #[23, 23] }, 23)) (hs : a.eval s = .slice pa na ca) (hx : a.eval x = .slice pb nb cb)
    (k : ∀ g n c w', (la ++ lb).length = n → St W0 w' (N + N) (os.set 0 (g, (some ⟨g, 0, none⟩, n, c), la ++ lb)) → K (a.put o.dst (.slice (some ⟨g, 0, none⟩) n c)) w') :
    if Region.wanted o (yielded ops a.tmps) = true then Oper.wp Try.prog o a wx K Q else E := by
  obtain ⟨g, n, c, w', hr, hl, hS⟩ := h.app j hj ha hb hN
  injection ho with h1 h2
  exact step_builtin hgd s x _ _ h1 _ _ hs hx (by rw [h2]; exact hr) (k g n c w' hl hS)

theorem at_alloc {P : Program} {f : FuncId} {args : Array Value} {w : World} {o : Obj} {Q : Ending → World → Prop} (h : Calls P f args (w.alloc o) Q) : Calls P f args (w.alloc o) Q := h
theorem at_alloc_drew {P : Program} {f : FuncId} {args : Array Value} {w : World} {o : Obj} {Q : Ending → World → Prop} (h : Calls P f args (w.alloc o).drew Q) : Calls P f args (w.alloc o).drew Q := h
theorem at_alloc2 {P : Program} {w : World} {ob : Obj} {ops : Array Oper} {o : Oper} {a : Act} {K : Act → World → Prop} {Q : Exit → Act → World → Prop} {E : Prop} (h : if Region.wanted o (yielded ops a.tmps) = true then Oper.wp P o a (w.alloc ob) K Q else E) : if Region.wanted o (yielded ops a.tmps) = true then Oper.wp P o a (w.alloc ob) K Q else E := h
theorem St.cells {W0 wx : World} {N : Nat} {os : List Ow} (h : St W0 wx N os) {a b : Addr} {v u : Value} (hc : (W0.cell? a = some v ∧ W0.cell? b = some u)) (ha : a.block < W0.heap.size ∧ b.block < W0.heap.size) : wx.cell? a = some v ∧ wx.cell? b = some u :=
  ⟨(h.1.cell ha.1).trans hc.1, (h.1.cell ha.2).trans hc.2⟩

set_option maxHeartbeats 8000000 in
set_option maxRecDepth 100000 in
theorem rputNew_c (li ad : Int) (p1 p2 : Option Addr) (n1 c1 n2 c2 : Nat) (no tk : List UInt8) (w : World) (R1 : Rd w (fun _ => True) p1 no) (l1 : no.length = n1) (z1 : p1 = none → c1 = 0) (R2 : Rd w (fun _ => True) p2 tk) (l2 : tk.length = n2) (z2 : p2 = none → c2 = 0) :
    Calls Try.prog 14 #[.agg #[.int .i64 li, .int .i64 ad, .slice p1 n1 c1, .slice p2 n2 c2]] w (RRes w (okN li ad no tk) (nwX li ad no tk)) := by
  subst l1 l2
  obtain ⟨d0, d1, d2, d3⟩ := fr4 w 42 (.int .i64 li) (.int .i64 ad) (.slice p1 no.length c1) (.slice p2 tk.length c2)
  have hA : Below w.heap.size w (w.alloc (.cells #[.int .i64 li, .int .i64 ad, .slice p1 no.length c1, .slice p2 tk.length c2] 42)) := (Below.refl _ _).alloc (Nat.le_refl _) _
  have HB := Lib.hid hA
  have HR0 := Lib.hid (And.intro R1 (And.intro z1 (And.intro R2 z2)))
  clear hA R1 R2 z1 z2
  by_cases h1 : li < 0
  · have hno : ¬ okN li ad no tk := by unfold okN; omega
    have HN := Lib.hid hno
    clear hno
    go_enter Try.func14, Try.ntmps14
    go_wp2
    all_goals go_ret2
    all_goals exact ⟨fun hk => absurd hk HN.out, fun _ => ⟨rfl, HB.out⟩⟩
  by_cases h2 : 4294967296 ≤ li
  · have hno : ¬ okN li ad no tk := by unfold okN; omega
    have HN := Lib.hid hno
    clear hno
    go_enter Try.func14, Try.ntmps14
    go_wp2
    all_goals go_ret2
    all_goals exact ⟨fun hk => absurd hk HN.out, fun _ => ⟨rfl, HB.out⟩⟩
  by_cases h3 : ad < 0
  · have hno : ¬ okN li ad no tk := by unfold okN; omega
    have HN := Lib.hid hno
    clear hno
    go_enter Try.func14, Try.ntmps14
    go_wp2
    all_goals go_ret2
    all_goals exact ⟨fun hk => absurd hk HN.out, fun _ => ⟨rfl, HB.out⟩⟩
  by_cases h4 : 4294967296 ≤ ad
  · have hno : ¬ okN li ad no tk := by unfold okN; omega
    have HN := Lib.hid hno
    clear hno
    go_enter Try.func14, Try.ntmps14
    go_wp2
    all_goals go_ret2
    all_goals exact ⟨fun hk => absurd hk HN.out, fun _ => ⟨rfl, HB.out⟩⟩
  by_cases h5 : (8 : Int) < (no.length : Int)
  · have hno : ¬ okN li ad no tk := by unfold okN; omega
    have HN := Lib.hid hno
    clear hno
    go_enter Try.func14, Try.ntmps14
    go_wp2
    all_goals go_ret2
    all_goals exact ⟨fun hk => absurd hk HN.out, fun _ => ⟨rfl, HB.out⟩⟩
  by_cases h6 : (tk.length : Int) < 1
  · have hno : ¬ okN li ad no tk := by unfold okN; omega
    have HN := Lib.hid hno
    clear hno
    go_enter Try.func14, Try.ntmps14
    go_wp2
    all_goals go_ret2
    all_goals exact ⟨fun hk => absurd hk HN.out, fun _ => ⟨rfl, HB.out⟩⟩
  by_cases h7 : (255 : Int) < (tk.length : Int)
  · have hno : ¬ okN li ad no tk := by unfold okN; omega
    have HN := Lib.hid hno
    clear hno
    go_enter Try.func14, Try.ntmps14
    go_wp2
    all_goals go_ret2
    all_goals exact ⟨fun hk => absurd hk HN.out, fun _ => ⟨rfl, HB.out⟩⟩

  have hok : okN li ad no tk := by unfold okN; omega
  obtain ⟨LI, rfl⟩ : ∃ LI : Nat, li = (LI : Int) := ⟨li.toNat, by omega⟩
  obtain ⟨AD, rfl⟩ : ∃ AD : Nat, ad = (AD : Int) := ⟨ad.toNat, by omega⟩
  have hLI : LI < 256 ^ 4 := by simp only [Nat.reducePow]; omega
  have hAD : AD < 256 ^ 4 := by simp only [Nat.reducePow]; omega
  have hX : nwX (LI : Int) (AD : Int) no tk = be LI 4 ++ be AD 4 ++ (be no.length 1 ++ no) ++ (be tk.length 2 ++ tk) ++ [0, 0] := by
    unfold nwX
    simp [be]
  have HX := Lib.hid (And.intro hok hX)
  have hlt : w.heap.size < (w.alloc (.cells #[.int .i64 (LI : Int), .int .i64 (AD : Int), .slice p1 no.length c1, .slice p2 tk.length c2] 42)).heap.size := by simp
  have H4 := Lib.hid (And.intro hLI hAD)
  clear hok hX hLI hAD
  obtain ⟨WA, hWA⟩ : ∃ WA, WA = w.alloc (.cells #[.int .i64 (LI : Int), .int .i64 (AD : Int), .slice p1 no.length c1, .slice p2 tk.length c2] 42) := ⟨_, rfl⟩
  rw [← hWA] at d0 d1 d2 d3 hlt
  have HR := Lib.hid (show Rd WA (fun _ => True) p1 no ∧ (p1 = none → c1 = 0) ∧ Rd WA (fun _ => True) p2 tk ∧ (p2 = none → c2 = 0) from ⟨by rw [hWA]; exact HR0.out.1.below HB.out, HR0.out.2.1, by rw [hWA]; exact HR0.out.2.2.1.below HB.out, HR0.out.2.2.2⟩)
  have HBA := Lib.hid (show Below w.heap.size w WA by rw [hWA]; exact HB.out)
  have HE := Lib.hid (show w.alloc (.cells #[.int .i64 (LI : Int), .int .i64 (AD : Int), .slice p1 no.length c1, .slice p2 tk.length c2] 42) = WA from hWA.symm)
  have HC := Lib.hid (And.intro d2 d3)
  have HD := Lib.hid (And.intro d0 (And.intro d1 (And.intro d2 d3)))
  clear hWA d0 d1 d2 d3
  go_enter Try.func14, Try.ntmps14
  go_upto_region 1 with (fail)
  rw [HE.out]
  obtain ⟨d0, d1, d2, d3⟩ := HD.out
  go_upto_region 3 with (fail)
  clear h1 h2 h3 h4
  go_wp2_with fail
  refine (rput_c (fun _ => True) none 0 0 [] LI 4 WA (Rd.nil _ _ _) (fun _ => rfl) (by simp) rfl (by omega)).mono ?_
  rintro e w1 ⟨hy, -⟩
  obtain ⟨g1, n1, k1, rfl, q1, q2, q3, q4, q5, q6, q7⟩ := hy H4.out.1
  clear hy
  have e1 := (q7.cell (p := ⟨w.heap.size, 1, none⟩) hlt).trans d1
  have q1' : n1 ≤ 8 := by rw [← q1]; simp [be_length]
  have HV := Lib.hid (And.intro q6 (And.intro q7 q1))
  clear d0 d1 d2 d3 q1 q2 q3 q6 q7
  go_wp2_with fail
  refine (rput_c (· = g1) (some ⟨g1, 0, none⟩) n1 k1 ([] ++ be LI 4) AD 4 w1 HV.out.1.rd (by intro hh; cases hh) (by rw [HV.out.2.2]; omega) HV.out.2.2 (by omega)).mono ?_
  rintro e w2 ⟨hy, -⟩
  obtain ⟨g2, n2, k2, rfl, q1, q2, q3, q4, q5, q6, q7⟩ := hy H4.out.2
  clear hy
  have hS0 : St WA w2.drew 302 [(g2, (some ⟨g2, 0, none⟩, n2, k2), be LI 4 ++ be AD 4)] := by
    have q6' : Own w2 g2 (.slice (some ⟨g2, 0, none⟩) n2 k2) (be LI 4 ++ be AD 4) := by simpa using q6
    have q1' : (be LI 4 ++ be AD 4).length = n2 := by simpa using q1
    refine ⟨(HV.out.2.1.trans (q7.mono HV.out.2.1.size)).drew, ?_, ?_⟩
    · intro i x hx
      rcases i with _ | i
      · cases hx
        refine ⟨q6'.only ((Only.refl (fun _ => False) _).drew) (fun h => h), q1', Nat.le_trans HV.out.2.1.size q2, q3, ?_, ?_, by simp⟩
        · intro hh
          have := congrArg List.length hh
          simp [be_length] at this
        · show (be LI 4 ++ be AD 4).length ≤ 302
          simp [be_length]
      · simp at hx
    · intro i j x y hx hy hij
      rcases i with _ | i <;> rcases j with _ | j <;> simp_all
  have hS := hS0
  have hcl := hS.cells HC.out ⟨hlt, hlt⟩
  clear hS0 q1 q2 q3 q6 q7
  go_upto_region 5 with (fail)
  go_region_held3 (fun w' => w'.cell? ⟨w.heap.size, 2, none⟩ = some (.slice p1 no.length c1) ∧ w'.cell? ⟨w.heap.size, 3, none⟩ = some (.slice p2 tk.length c2)) (first | exact hS.cells HC.out ⟨hlt, hlt⟩ | exact (hS.zz (by omega)).cells HC.out ⟨hlt, hlt⟩ | exact (hS.zzd (by omega)).cells HC.out ⟨hlt, hlt⟩)
    (first
      | (go_at_call 22; have hq := q1; (with_reducible refine at_alloc ?_); have hS := hS.zz (by omega); refine (hS.vec 2 p2 tk.length c2 tk _ (HR.out.2.2.1.below hS.1) HR.out.2.2.2 rfl (by omega) (by simp only [Nat.reducePow]; omega) (by omega) (by omega)).mono ?_; rintro e w2 ⟨g2, n2, c2', rfl, q2, hS⟩)
      | (go_at_call 22; have hq := q1; refine (hS.vec 2 p2 tk.length c2 tk _ (HR.out.2.2.1.below hS.1) HR.out.2.2.2 rfl (by omega) (by simp only [Nat.reducePow]; omega) (by omega) (by omega)).mono ?_; rintro e w2 ⟨g2, n2, c2', rfl, q2, hS⟩)
      | (go_at_call 22; (with_reducible refine at_alloc ?_); have hS := hS.zz (by omega); refine (hS.vec 1 p1 no.length c1 no _ (HR.out.1.below hS.1) HR.out.2.1 rfl (by omega) (by simp only [Nat.reducePow]; omega) (by omega) (by omega)).mono ?_; rintro e w1 ⟨g1, n1, c1', rfl, q1, hS⟩)
      | (go_at_call 22; (with_reducible refine at_alloc_drew ?_); have hS := hS.zzd (by omega); refine (hS.vec 1 p1 no.length c1 no _ (HR.out.1.below hS.1) HR.out.2.1 rfl (by omega) (by simp only [Nat.reducePow]; omega) (by omega) (by omega)).mono ?_; rintro e w1 ⟨g1, n1, c1', rfl, q1, hS⟩)
      | (go_at_call 22; refine (hS.vec 1 p1 no.length c1 no _ (HR.out.1.below hS.1) HR.out.2.1 rfl (by omega) (by simp only [Nat.reducePow]; omega) (by omega) (by omega)).mono ?_; rintro e w1 ⟨g1, n1, c1', rfl, q1, hS⟩)
      | ((with_reducible refine at_alloc2 ?_); have hS := hS.zz (by omega); refine hS.step 1 (by decide) rfl rfl (by omega) rfl (.tmp 55) (.tmp 58) rfl ?_ ?_ ?_; (focus (simp [Act.eval]; done)); (focus (simp [Act.eval]; done)); intro g3 n3 c3 w3 hl3 hS)
      | ((with_reducible refine at_alloc2 ?_); have hS := hS.zz (by omega); refine hS.step 2 (by decide) rfl rfl (by omega) rfl (.tmp 55) (.tmp 58) rfl ?_ ?_ ?_; (focus (simp [Act.eval]; done)); (focus (simp [Act.eval]; done)); intro g3 n3 c3 w3 hl3 hS)
      | ((with_reducible refine at_alloc2 ?_); have hS := hS.zz (by omega); refine hS.step 3 (by decide) rfl rfl (by omega) rfl (.tmp 55) (.tmp 58) rfl ?_ ?_ ?_; (focus (simp [Act.eval]; done)); (focus (simp [Act.eval]; done)); intro g3 n3 c3 w3 hl3 hS)
      | ((with_reducible refine at_alloc2 ?_); have hS := hS.zz (by omega); refine hS.step 1 (by decide) rfl rfl (by omega) rfl (.tmp 59) (.tmp 62) rfl ?_ ?_ ?_; (focus (simp [Act.eval]; done)); (focus (simp [Act.eval]; done)); intro g3 n3 c3 w3 hl3 hS)
      | ((with_reducible refine at_alloc2 ?_); have hS := hS.zz (by omega); refine hS.step 2 (by decide) rfl rfl (by omega) rfl (.tmp 59) (.tmp 62) rfl ?_ ?_ ?_; (focus (simp [Act.eval]; done)); (focus (simp [Act.eval]; done)); intro g3 n3 c3 w3 hl3 hS)
      | ((with_reducible refine at_alloc2 ?_); have hS := hS.zz (by omega); refine hS.step 3 (by decide) rfl rfl (by omega) rfl (.tmp 59) (.tmp 62) rfl ?_ ?_ ?_; (focus (simp [Act.eval]; done)); (focus (simp [Act.eval]; done)); intro g3 n3 c3 w3 hl3 hS)
      | ((with_reducible refine at_alloc2 ?_); have hS := hS.zz (by omega); refine hS.step 1 (by decide) rfl rfl (by omega) rfl (.tmp 63) (.tmp 64) rfl ?_ ?_ ?_; (focus (simp [Act.eval]; done)); (focus (simp [Act.eval]; done)); intro g3 n3 c3 w3 hl3 hS)
      | ((with_reducible refine at_alloc2 ?_); have hS := hS.zz (by omega); refine hS.step 2 (by decide) rfl rfl (by omega) rfl (.tmp 63) (.tmp 64) rfl ?_ ?_ ?_; (focus (simp [Act.eval]; done)); (focus (simp [Act.eval]; done)); intro g3 n3 c3 w3 hl3 hS)
      | ((with_reducible refine at_alloc2 ?_); have hS := hS.zz (by omega); refine hS.step 3 (by decide) rfl rfl (by omega) rfl (.tmp 63) (.tmp 64) rfl ?_ ?_ ?_; (focus (simp [Act.eval]; done)); (focus (simp [Act.eval]; done)); intro g3 n3 c3 w3 hl3 hS)
      | (refine hS.step 1 (by decide) rfl rfl (by omega) rfl (.tmp 55) (.tmp 58) rfl ?_ ?_ ?_; (focus (simp [Act.eval]; done)); (focus (simp [Act.eval]; done)); intro g3 n3 c3 w3 hl3 hS)
      | (refine hS.step 2 (by decide) rfl rfl (by omega) rfl (.tmp 55) (.tmp 58) rfl ?_ ?_ ?_; (focus (simp [Act.eval]; done)); (focus (simp [Act.eval]; done)); intro g3 n3 c3 w3 hl3 hS)
      | (refine hS.step 3 (by decide) rfl rfl (by omega) rfl (.tmp 55) (.tmp 58) rfl ?_ ?_ ?_; (focus (simp [Act.eval]; done)); (focus (simp [Act.eval]; done)); intro g3 n3 c3 w3 hl3 hS)
      | (refine hS.step 1 (by decide) rfl rfl (by omega) rfl (.tmp 59) (.tmp 62) rfl ?_ ?_ ?_; (focus (simp [Act.eval]; done)); (focus (simp [Act.eval]; done)); intro g3 n3 c3 w3 hl3 hS)
      | (refine hS.step 2 (by decide) rfl rfl (by omega) rfl (.tmp 59) (.tmp 62) rfl ?_ ?_ ?_; (focus (simp [Act.eval]; done)); (focus (simp [Act.eval]; done)); intro g3 n3 c3 w3 hl3 hS)
      | (refine hS.step 3 (by decide) rfl rfl (by omega) rfl (.tmp 59) (.tmp 62) rfl ?_ ?_ ?_; (focus (simp [Act.eval]; done)); (focus (simp [Act.eval]; done)); intro g3 n3 c3 w3 hl3 hS)
      | (refine hS.step 1 (by decide) rfl rfl (by omega) rfl (.tmp 63) (.tmp 64) rfl ?_ ?_ ?_; (focus (simp [Act.eval]; done)); (focus (simp [Act.eval]; done)); intro g3 n3 c3 w3 hl3 hS)
      | (refine hS.step 2 (by decide) rfl rfl (by omega) rfl (.tmp 63) (.tmp 64) rfl ?_ ?_ ?_; (focus (simp [Act.eval]; done)); (focus (simp [Act.eval]; done)); intro g3 n3 c3 w3 hl3 hS)
      | (refine hS.step 3 (by decide) rfl rfl (by omega) rfl (.tmp 63) (.tmp 64) rfl ?_ ?_ ?_; (focus (simp [Act.eval]; done)); (focus (simp [Act.eval]; done)); intro g3 n3 c3 w3 hl3 hS))
  all_goals go_wp2
  all_goals go_ret2
  all_goals
    obtain ⟨o1, -⟩ := hS.2.1 0 _ rfl
    exact ⟨fun _ => ⟨some ⟨g3, 0, none⟩, n3, c3, rfl, by rw [HX.out.2]; exact hl3, by rw [HX.out.2]; exact o1.rd.mono (fun _ _ _ => trivial), by simp, HBA.out.trans (hS.1.mono HBA.out.size)⟩, fun hk => absurd HX.out.1 hk⟩

set_option maxHeartbeats 4000000 in
set_option maxRecDepth 100000 in
theorem rputVerify_c (sc : Int) (p2 : Option Addr) (n2 c2 : Nat) (sg : List UInt8) (w : World) (R2 : Rd w (fun _ => True) p2 sg) (l2 : sg.length = n2) (z2 : p2 = none → c2 = 0) :
    Calls Try.prog 16 #[.int .i64 sc, .slice p2 n2 c2] w (RRes w (okY sc sg) (vfX sc sg)) := by
  subst l2
  have HR := Lib.hid (And.intro R2 z2)
  clear R2 z2
  by_cases h1 : sc < 0
  · have hno : ¬ okY sc sg := by unfold okY; omega
    have HN := Lib.hid hno
    clear hno
    go_enter Try.func16, Try.ntmps16
    go_wp2_with (go_at_call 32; refine (rput_bad _ sc 2 _ (by omega)).mono ?_; rintro e w1 ⟨rfl, B1⟩)
    all_goals go_ret2
    all_goals exact ⟨fun hk => absurd hk HN.out, fun _ => ⟨rfl, B1⟩⟩
  obtain ⟨SC, rfl⟩ : ∃ SC : Nat, sc = (SC : Int) := ⟨sc.toNat, by omega⟩
  clear h1
  by_cases h2 : SC < 256 ^ 2
  · have hsc : SC < 65536 := by simpa using h2
    have H2 := Lib.hid h2
    clear h2
    have hcs : (sg.length : Int) < 1 ∨ (100 : Int) < (sg.length : Int) ∨ (1 ≤ sg.length ∧ sg.length ≤ 100) := by omega
    go_enter Try.func16, Try.ntmps16
    go_wp2_with fail
    refine (rput_c (fun _ => True) none 0 0 [] SC 2 w (Rd.nil _ _ _) (fun _ => rfl) (by simp) rfl (by omega)).mono ?_
    rintro e w1 ⟨hy, -⟩
    obtain ⟨g1, n1, k1, rfl, q1, q2, q3, q4, q5, q6, q7⟩ := hy H2.out
    clear hy
    rcases hcs with h | h | h
    · have hno : ¬ okY (SC : Int) sg := by unfold okY; omega
      have hb1 : decide ((sg.length : Int) < 1) = true := decide_eq_true h
      have HN := Lib.hid hno
      have HB := Lib.hid q7
      clear hno q1 q2 q3 q4 q5 q6 q7
      go_wp2
      all_goals go_ret2
      all_goals exact ⟨fun hk => absurd hk HN.out, fun _ => ⟨rfl, HB.out⟩⟩
    · have hno : ¬ okY (SC : Int) sg := by unfold okY; omega
      have hb1 : decide ((sg.length : Int) < 1) = false := decide_eq_false (by omega)
      have hb2 : decide ((100 : Int) < (sg.length : Int)) = true := decide_eq_true h
      have HN := Lib.hid hno
      have HB := Lib.hid q7
      clear hno q1 q2 q3 q4 q5 q6 q7
      go_wp2
      all_goals go_ret2
      all_goals exact ⟨fun hk => absurd hk HN.out, fun _ => ⟨rfl, HB.out⟩⟩
    · have hok : okY (SC : Int) sg := by unfold okY; omega
      have hb1 : decide ((sg.length : Int) < 1) = false := decide_eq_false (by omega)
      have hb2 : decide ((100 : Int) < (sg.length : Int)) = false := decide_eq_false (by omega)
      have hX : vfX (SC : Int) sg = be SC 2 ++ (be sg.length 2 ++ sg) := by
        unfold vfX
        simp
      have hg1 := q2
      have hn1 : n1 ≤ 2 := by rw [← q1]; simp [be_length]
      have hl100 := h.2
      have HN := Lib.hid (And.intro hok hX)
      have HB := Lib.hid (And.intro (show Own w1 g1 (.slice (some ⟨g1, 0, none⟩) n1 k1) (be SC 2) by simpa using q6) (And.intro q7 q1))
      clear hok hX q1 q2 q3 q4 q5 q6 q7
      go_wp2_with fail
      refine (vec2w_c (fun _ => True) p2 sg.length c2 sg w1 (HR.out.1.below HB.out.2.1) HR.out.2 rfl (by omega)).mono ?_
      rintro e w2 ⟨gv, nv, cv, rfl, kv, z1, z2, z3, z4, ov, bv⟩
      have hnv : nv ≤ 102 := by rw [← kv, List.length_append, be_length]; omega
      have HV := Lib.hid (And.intro ov (And.intro kv (And.intro (HB.out.2.1.trans (bv.mono HB.out.2.1.size)) (Own.keep HB.out.1 bv))))
      have hlen : (be SC 2).length = 2 := be_length SC 2
      clear ov bv kv z1 z2 z3 z4
      go_wp2_with (at_builtin; refine wpList_append_bytes _ rfl (.tmp 25) (.tmp 27) 23 rfl Try.underlying23 Try.info5 g1 _ (be SC 2) rfl HV.out.2.2.2 (· = gv) _ nv cv (be sg.length 2 ++ sg) rfl HV.out.2.1 (by intro h; cases h) HV.out.1.rd (by rw [HV.out.2.1, hlen]; omega) ?_)
      intro g2 v2 w3 o2 hg2 hO2 hn2
      have B2 : Below w.heap.size w w3 := below_only HV.out.2.2.1 HV.out.2.2.1.size hO2 (by intro k hk e; have := HB.out.2.1.size; omega)
      obtain ⟨p2', c2', rfl, -, -, r2, z2, -⟩ := o2.form
      obtain ⟨NX, hNX⟩ : ∃ N, (be SC 2 ++ (be sg.length 2 ++ sg)).length = N := ⟨_, rfl⟩
      have HF := Lib.hid (And.intro r2 (And.intro z2 (And.intro B2 hNX)))
      rw [hNX]
      clear r2 z2 B2 hn2 hO2 hg2 o2 hNX
      go_wp2
      go_ret2
      exact ⟨fun _ => ⟨p2', NX, c2', rfl, by rw [HN.out.2]; exact HF.out.2.2.2, by rw [HN.out.2]; exact HF.out.1.mono (fun _ _ _ => trivial), HF.out.2.1, HF.out.2.2.1⟩, fun hk => absurd HN.out.1 hk⟩
  · have hno : ¬ okY (SC : Int) sg := by
      intro hk
      have := hk.1.2
      exact h2 (by simp only [Nat.reducePow]; omega)
    have HN := Lib.hid (And.intro hno h2)
    clear hno h2
    go_enter Try.func16, Try.ntmps16
    go_wp2_with fail
    refine (rput_c (fun _ => True) none 0 0 [] SC 2 w (Rd.nil _ _ _) (fun _ => rfl) (by simp) rfl (by omega)).mono ?_
    rintro e w1 ⟨-, hy⟩
    obtain ⟨rfl, B1⟩ := hy HN.out.2
    clear hy
    go_wp2
    all_goals go_ret2
    all_goals exact ⟨fun hk => absurd hk HN.out.1, fun _ => ⟨rfl, B1⟩⟩
end Go.Proofs.Ytkgeecejgpekkaa
