/-
  The walk of CursorReads: it returns true, and changes nothing that lay there. Conditions: those of the rows that are handed over.
-/
import Derived.Test.YtmmifenihjmmiaaRefB
import Derived.Test.YtmmifenihjmmiaaRefC
import Derived.Test.YtmmifenihjmmiaaStepA
import Derived.Deep.RegionHeld3
import Derived.Deep.CutBlock
import Derived.Deep.CutRange
namespace Go.Kx
open Go.RowKit
/-- A struct of four cells in a block of its own. -/
def Box4 (w : World) (r t : Nat) (x y z u : Value) : Prop := w.heap[r]? = some (.cells #[x, y, z, u] t (0, 0))
theorem Box4.c1 {w : World} {r t : Nat} {x y z u : Value} (h : Box4 w r t x y z u) : w.cell? ⟨r, 1, none⟩ = some y := by unfold Box4 at h; simp [World.cell?, h]
theorem Box4.c2 {w : World} {r t : Nat} {x y z u : Value} (h : Box4 w r t x y z u) : w.cell? ⟨r, 2, none⟩ = some z := by unfold Box4 at h; simp [World.cell?, h]
theorem Box4.c3 {w : World} {r t : Nat} {x y z u : Value} (h : Box4 w r t x y z u) : w.cell? ⟨r, 3, none⟩ = some u := by unfold Box4 at h; simp [World.cell?, h]
theorem Box4.only {w w' : World} {q : Nat → Prop} {r t : Nat} {x y z u : Value} (h : Box4 w r t x y z u) (ho : Only q w w') (hd : ¬ q r) : Box4 w' r t x y z u := (ho.block r (Array.getElem?_eq_some_iff.1 h).1 hd).trans h
theorem Box4.new (w : World) (t : Nat) (x y z u : Value) : Box4 (w.alloc (.cells #[x, y, z, u] t)) w.heap.size t x y z u := heap_alloc_new w _
end Go.Kx
namespace Go.Proofs.Ytmmifenihjmmiaa
open Go.RowKit Go.Kx

theorem hop6 (n : Int) : ∃ K : Nat, wrap64 ((IntKind.u64.wrap n).tmod 6) = (K : Int) ∧ K < 6 := by
  have h0 : 0 ≤ IntKind.u64.wrap n := by rw [IntKind.wrap_u64]; omega
  rw [Int.tmod_eq_emod_of_nonneg h0]
  generalize IntKind.u64.wrap n = y at h0
  have h1 : 0 ≤ y % 6 ∧ y % 6 < 6 := ⟨Int.emod_nonneg _ (by omega), Int.emod_lt_of_pos _ (by omega)⟩
  generalize y % 6 = x at h1
  rw [IntWalk.wrap64_in x ⟨by omega, by omega⟩]
  exact ⟨x.toNat, by omega, by omega⟩

theorem vecS_le (s : List UInt8) (bad width least most : Int) : (vecS s bad width least most).2.1.length ≤ s.length := by
  unfold vecS
  simp only
  split
  · exact Nat.le_trans (leftS_le _ _ _) (leftS_le _ _ _)
  · exact Nat.le_trans (leftS_le _ _ _) (leftS_le _ _ _)

/-- Bytes that are told, with a length that is a letter. -/
def ToldX (wx : World) (r : Nat) (X : List UInt8) (C : World → Prop) (e : Ending) (w' : World) : Prop :=
  ∃ g' p n c, e = .returned (.slice p n c) ∧ X.length = n ∧ wx.heap.size ≤ g' ∧ Own w' g' (.slice p n c) X ∧ C w' ∧ Only (· = r) wx w'
theorem told_x {wx w' : World} {r g : Nat} {X S : List UInt8} {B : Int} {e : Ending} (h : ToldR wx r g X S B e w') : ToldX wx r X (fun w' => Cur w' r g S B) e w' := by
  obtain ⟨g', p, c, rfl, h1, h2, h3, h4⟩ := h
  exact ⟨g', p, _, c, rfl, rfl, h1, h2, h3, h4⟩
theorem rtold_x {wx w' : World} {r g : Nat} {L X S : List UInt8} {B : Int} {e : Ending} (h : RToldR wx r g L X S B e w') : ToldX wx r X (fun w' => Rf w' r g L S B) e w' := by
  obtain ⟨g', p, c, rfl, h1, h2, h3, h4⟩ := h
  exact ⟨g', p, _, c, rfl, rfl, h1, h2, h3, h4⟩

/-- What the walk is told of the row of calls: nil, or each call's four numbers. -/
def IsActs (w : World) (a : Option Addr) (len cap : Nat) : Prop :=
  (a = none ∧ len = 0 ∧ cap = 0) ∨
  ∃ x, a = some x ∧ len ≤ cap ∧ cap ≤ maxLen ∧ ∀ i, i < len → ∃ k0 k1 k2 k3 : Int, ∀ j u, [Value.int .i64 k0, .int .i64 k1, .int .i64 k2, .int .i64 k3][j]? = some u → w.cell? ((x.add (i * 4)).add j) = some u

/-- One round: both Readers stand where one of them stands. -/
def RRel (wc : World) (r g r2 g2 : Nat) (L : List UInt8) (len : Nat) (v7 : Value) (wr : World) : Prop :=
  ∃ (i : Nat) (s : List UInt8) (bad : Int), v7 = .int .i64 (i : Int) ∧ i ≤ 30 ∧ i ≤ len ∧ s.length ≤ L.length ∧ Cur wr r g s bad ∧ Rf wr r2 g2 L s bad ∧ Only (fun k => k = r ∨ k = r2) wc wr

set_option maxHeartbeats 20000000 in
set_option maxRecDepth 100000 in
theorem reads_c (p0 p1 : Option Addr) (n0 c0 len cap : Nat) (l0 : List UInt8) (w : World) (h0 : Rd w (· < w.heap.size) p0 l0) (hn0 : l0.length = n0) (hm0 : c0 ≤ maxLen) (hc0 : n0 ≤ c0) (hp0 : p0 = none → c0 = 0) (h1 : IsActs w p1 len cap) :
    Calls Try.prog 5 #[.slice p0 n0 c0, .slice p1 len cap] w fun e w' => e = .returned (.bool true) ∧ Below w.heap.size w w' := by
  unfold maxLen at hm0
  obtain ⟨N, hN⟩ : ∃ N, N = min n0 100 := ⟨_, rfl⟩
  have hmin0 : min (n0 : Int) 100 = (N : Int) := by omega
  have hN1 : N ≤ 100 := by omega
  have hN2 : N ≤ c0 := by omega
  have hl : (l0.take N).length = N := by rw [List.length_take]; omega
  have hR := h0.take N
  have HL := Lib.hid (And.intro hl hR)
  have HA := Lib.hid h1
  clear h0 hn0 hN hl hR h1
  generalize hlt : l0.take N = l at *
  clear hlt l0
  go_enter Try.func5, Try.ntmps5
  go_upto_region 4 with (first
    | (go_at_call 19; refine (none_c _).mono ?_; rintro e w' ⟨rfl, rfl⟩)
    | (go_at_call 20; refine (fail_nil _).mono ?_; rintro e w' ⟨rfl, rfl⟩)
    | (go_at_call 13; refine (puts_c _).mono ?_; rintro e w1 ⟨rfl, b1⟩)
    | (go_at_call 12; refine (uint_nil _ _).mono ?_; rintro e w' ⟨rfl, rfl⟩)
    | (go_at_call 18; refine (bytes_nil _ _).mono ?_; rintro e w' ⟨rfl, rfl⟩)
    | (go_at_call 11; refine (vector_nil _ _ _ _).mono ?_; rintro e w' ⟨rfl, rfl⟩)
    | (go_at_call 10; refine (left_nil _).mono ?_; rintro e w' ⟨rfl, rfl⟩)
    | (go_at_call 14; refine (done_nil _).mono ?_; rintro e w' ⟨rfl, rfl⟩)
    | (go_at_call 15; refine (isWrong_nil _).mono ?_; rintro e w' ⟨rfl, rfl⟩))
  have hz1 := b1.size
  have ho0 := Own.new w1
  have hR1 := (HL.out.2.below b1).below ((Below.refl _ w1).alloc (Nat.le_refl _) (.cells #[] 5))
  have HO0 := Lib.hid ho0
  have HR1 := Lib.hid hR1
  have HB1 := Lib.hid b1
  clear ho0 hR1 b1
  go_cut [0] (fun v0 wx => ∃ g0 c, v0 = .slice (some ⟨g0, 0, none⟩) N c ∧ w.heap.size ≤ g0 ∧ g0 < wx.heap.size ∧ N ≤ c ∧ Own wx g0 (.slice (some ⟨g0, 0, none⟩) N c) l ∧ Below w.heap.size w wx)
  case first =>
    have harm : ∀ g0 v0 wx, Own wx g0 v0 l → v0 ≠ .slice none 0 0 → (g0 = w1.heap.size ∨ g0 = (w1.alloc (.cells #[] 5)).heap.size) → Only (· = w1.heap.size) (w1.alloc (.cells #[] 5)) wx →
        ∃ g0' c, v0 = .slice (some ⟨g0', 0, none⟩) N c ∧ w.heap.size ≤ g0' ∧ g0' < wx.heap.size ∧ N ≤ c ∧ Own wx g0' (.slice (some ⟨g0', 0, none⟩) N c) l ∧ Below w.heap.size w wx := by
      intro g0 v0 wx ho hv hg hO
      obtain ⟨c, rfl, k1, k2, k3⟩ := ho.shape hv
      have hz2 : (w1.alloc (.cells #[] 5)).heap.size = w1.heap.size + 1 := by simp
      rw [HL.out.1] at ho k1 ⊢
      refine ⟨g0, c, rfl, by omega, k3, k1, ho, HB1.out.trans (below_only ((Below.refl _ w1).alloc (Nat.le_refl _) (.cells #[] 5)) (by omega) hO (by intro k hk e; omega) |>.mono hz1)⟩
    have HARM := Lib.hid harm
    clear harm
    by_cases hc : n0 ≤ 100
    · obtain rfl : N = n0 := by omega
      have hc' : (N : Int) ≤ 100 := by omega
      clear hmin0
      go_wp2_with (at_builtin; refine wpList_append_bytes _ rfl (.tmp 45) (.tmp 50) 24 rfl Try.underlying24 Try.info5 _ _ [] rfl HO0.out (· < w.heap.size) _ N c0 l rfl HL.out.1 hp0 HR1.out (by rw [HL.out.1]; show 0 + N ≤ _; omega) ?_)
      intro g0 v0 w2 ho2 hg2 hO2 hn2
      have hne : v0 ≠ .slice none 0 0 := hn2
      clear hn2
      obtain ⟨g0', c, rfl, k1, k2, k3, k4, k5⟩ := HARM.out g0 v0 w2 ho2 hne (by simpa using hg2) hO2
      clear HARM ho2 hg2 hO2 hne
      go_wp2
      go_meet
      exact ⟨g0', c, rfl, k1, k2, k3, k4, k5⟩
    · obtain rfl : N = 100 := by omega
      have hc' : (100 : Int) < (n0 : Int) := by omega
      clear hmin0
      go_wp2_with (at_builtin; refine wpList_append_bytes _ rfl (.tmp 45) (.tmp 50) 24 rfl Try.underlying24 Try.info5 _ _ [] rfl HO0.out (· < w.heap.size) _ 100 c0 l rfl HL.out.1 hp0 HR1.out (by rw [HL.out.1]; show 0 + 100 ≤ _; omega) ?_)
      intro g0 v0 w2 ho2 hg2 hO2 hn2
      have hne : v0 ≠ .slice none 0 0 := hn2
      clear hn2
      obtain ⟨g0', c, rfl, k1, k2, k3, k4, k5⟩ := HARM.out g0 v0 w2 ho2 hne (by simpa using hg2) hO2
      clear HARM ho2 hg2 hO2 hne
      go_wp2
      go_meet
      exact ⟨g0', c, rfl, k1, k2, k3, k4, k5⟩
  case rest =>
    obtain ⟨g0, c1, rfl, h3, h4, h5, h6, h7⟩ := hcut
    have H6 := Lib.hid h6
    have H7 := Lib.hid h7
    clear h6 h7 HB1 HR1 HO0
    have hzw := H7.out.size
    go_wp2_with (first
      | (go_at_call 9; refine (new_c (· = g0) _ N c1 l _ H6.out.rd (by intro h; cases h) (by rw [HL.out.1]; omega) HL.out.1).mono ?_; rintro e w3 ⟨r, g, rfl, k1, k2, k3, k4, k5⟩)
      | (at_builtin; refine wpList_append_bytes _ rfl (.tmp 54) (.tmp 55) 24 rfl Try.underlying24 Try.info5 w3.heap.size _ [] rfl (Own.new w3) (· = g0) _ N c1 l rfl HL.out.1 (by intro h; cases h) ((H6.out.rd.below k5).below ((Below.refl _ w3).alloc (Nat.le_refl _) (.cells #[] 5))) (by rw [HL.out.1]; show 0 + N ≤ _; omega) ?_))
    intro ga va w4 ha hga hoa hna
    have hne : va ≠ .slice none 0 0 := hna
    clear hna
    have hga' : ga = w3.heap.size ∨ ga = w3.heap.size + 1 := by simpa using hga
    obtain ⟨ca, rfl, q1, q2, q3⟩ := ha.shape hne
    have hz3 : w3.heap.size ≤ w4.heap.size := by have := hoa.size; simp only [World.size_alloc] at this; omega
    have hO34 : Only (· = w3.heap.size) w3 w4 := ((Only.refl _ w3).alloc _).then hoa
    have hB34 : Below w3.heap.size w3 w4 := hO34.below (Nat.le_refl _) (by intro k hk e; omega)
    rw [HL.out.1] at ha q1 ⊢
    have hgl3 := k4.glt
    have HAA := Lib.hid ha
    have K4 := Lib.hid (k4.only (.of_below hB34 (r := fun _ => False)) (fun h => h) (fun h => h))
    have HB34 := Lib.hid hB34
    have K5 := Lib.hid k5
    clear hga hoa ha k4 hO34 hB34 k5 hne
    go_upto_region 7 with (fail)
    have hbox : Box3 (w4.alloc (.cells #[.slice (some ⟨ga, 0, none⟩) N ca, .int .i64 0, .int .i64 0] 46)) w4.heap.size 46 (.slice (some ⟨ga, 0, none⟩) N ca) (.int .i64 0) (.int .i64 0) := Box3.new _ _ _ _ _
    have hB45 : Only (fun _ => False) w4 (w4.alloc (.cells #[.slice (some ⟨ga, 0, none⟩) N ca, .int .i64 0, .int .i64 0] 46)) := (Only.refl _ w4).alloc _
    have hz5 : (w4.alloc (.cells #[.slice (some ⟨ga, 0, none⟩) N ca, .int .i64 0, .int .i64 0] 46)).heap.size = w4.heap.size + 1 := by simp
    generalize w4.alloc (.cells #[.slice (some ⟨ga, 0, none⟩) N ca, .int .i64 0, .int .i64 0] 46) = w5 at *
    obtain ⟨r2, hr2⟩ : ∃ r2, r2 = w4.heap.size := ⟨_, rfl⟩
    rw [← hr2] at hbox ⊢
    have hglt := K4.out.glt
    have hg3 : g < w3.heap.size := hgl3
    have hCur : Cur w5 r g l 0 := K4.out.only hB45 (fun h => h) (fun h => h)
    have hRf : Rf w5 r2 ga l l 0 := ⟨by omega, by omega, N, ca, 0, HL.out.1, by omega, rfl, hbox, HAA.out.rd.only hB45 (fun _ _ h => h), q1, q2⟩
    have hB5 : Below w.heap.size w w5 := H7.out.trans ((K5.out.mono hzw).trans ((HB34.out.mono (by have := K5.out.size; omega)).trans ((hB45.below (by have := K5.out.size; omega) (fun _ _ h => h)))))
    have hOw : Own w5 g0 (.slice (some ⟨g0, 0, none⟩) N c1) l := (((H6.out.only (.of_below K5.out (r := fun _ => False)) (fun h => h)).only (.of_below HB34.out (r := fun _ => False)) (fun h => h))).only hB45 (fun h => h)
    have hsz3 := K5.out.size
    have hne1 : r ≠ r2 := by omega
    have hne2 : g ≠ r2 := by omega
    have hne3 : ga ≠ r := by omega
    have hne4 : g0 ≠ r ∧ g0 ≠ r2 := by omega
    have hbr : w.heap.size ≤ r ∧ w.heap.size ≤ r2 := by omega
    have CU := Lib.hid hCur
    have RF := Lib.hid hRf
    have B5 := Lib.hid hB5
    have OW := Lib.hid hOw
    clear hbox hB45 hz5 hr2 hglt hg3 hCur hRf hB5 hOw hsz3 K4 HB34 K5 H6 H7 HAA
    go_loopw [7, 8] (fun v7 _ wr => RRel w5 r g r2 ga l len v7 wr) (fun v7 _ _ => 30 - (intOf v7).toNat)
    case atStart => exact ⟨0, l, 0, rfl, by omega, by omega, Nat.le_refl _, CU.out, RF.out, Only.refl _ _⟩
    case round =>
      obtain ⟨i, s, bad, rfl, hi30, hil, hsl, hc, hf, ho⟩ := hrel
      have CC := Lib.hid hc
      have FF := Lib.hid hf
      have OO := Lib.hid ho
      clear hc hf ho
      by_cases hgo : i < len ∧ i < 30
      · obtain ⟨hg1, hg2⟩ := hgo
        obtain ⟨b, o, K0, K1, K2, K3, rfl, hcap, hcell⟩ : ∃ b o, ∃ k0 k1 k2 k3 : Int, p1 = some ⟨b, o, none⟩ ∧ len ≤ cap ∧ (w.cell? ⟨b, o + i * 4, none⟩ = some (.int .i64 k0) ∧ w.cell? ⟨b, o + i * 4 + 1, none⟩ = some (.int .i64 k1) ∧ w.cell? ⟨b, o + i * 4 + 2, none⟩ = some (.int .i64 k2) ∧ w.cell? ⟨b, o + i * 4 + 3, none⟩ = some (.int .i64 k3)) := by
          rcases HA.out with ⟨_, h, _⟩ | ⟨⟨b, o, sp⟩, rfl, h1, h2, h3⟩
          · omega
          · obtain ⟨k0, k1, k2, k3, h4⟩ := h3 i hg1
            have hsp : sp = none := by
              obtain ⟨_, _, _, _, h5⟩ := h3 0 (by omega)
              have := World.cell?_spot (h5 0 _ rfl)
              simpa [Addr.add] using this
            subst hsp
            have e0 := h4 0 _ rfl
            have ha : ∀ k, (⟨b, o, none⟩ : Addr).add k = ⟨b, o + k, none⟩ := by intro k; unfold Addr.add; split <;> simp_all
            have e1 := h4 1 _ rfl
            have e2 := h4 2 _ rfl
            have e3 := h4 3 _ rfl
            rw [ha] at e0 e1 e2 e3
            have hb : ∀ k, (⟨b, o + i * 4, none⟩ : Addr).add k = ⟨b, o + i * 4 + k, none⟩ := by intro k; unfold Addr.add; split <;> simp_all
            rw [hb] at e0 e1 e2 e3
            exact ⟨b, o, k0, k1, k2, k3, rfl, h1, by simpa using e0, e1, e2, e3⟩
        have hbw : Below w.heap.size w wr := below_only B5.out B5.out.size OO.out (by intro k hk e; omega)
        obtain ⟨e0, e1, e2, e3⟩ := hcell
        have hblt : b < w.heap.size := by have := World.block_lt_of_cell? w _ e0; exact this
        have d0 := (hbw.cell (p := ⟨b, o + i * 4, none⟩) hblt).trans e0
        have d1 := (hbw.cell (p := ⟨b, o + i * 4 + 1, none⟩) hblt).trans e1
        have d2 := (hbw.cell (p := ⟨b, o + i * 4 + 2, none⟩) hblt).trans e2
        have d3 := (hbw.cell (p := ⟨b, o + i * 4 + 3, none⟩) hblt).trans e3
        have HBW := Lib.hid hbw
        clear hbw e0 e1 e2 e3
        have i0 : (0 : Int) ≤ (i : Int) := by omega
        have i1 : (i : Int) < (len : Int) := by omega
        obtain ⟨Q, hQ, hQ6⟩ := hop6 K0
        go_upto_block 2 with (fail)
        have hbx : Box4 (wr.alloc (.cells #[.int .i64 K0, .int .i64 K1, .int .i64 K2, .int .i64 K3] 48)) wr.heap.size 48 (.int .i64 K0) (.int .i64 K1) (.int .i64 K2) (.int .i64 K3) := Box4.new _ _ _ _ _ _
        have hal : Only (fun _ => False) wr (wr.alloc (.cells #[.int .i64 K0, .int .i64 K1, .int .i64 K2, .int .i64 K3] 48)) := (Only.refl _ wr).alloc _
        have hza : (wr.alloc (.cells #[.int .i64 K0, .int .i64 K1, .int .i64 K2, .int .i64 K3] 48)).heap.size = wr.heap.size + 1 := by simp
        generalize wr.alloc (.cells #[.int .i64 K0, .int .i64 K1, .int .i64 K2, .int .i64 K3] 48) = W0 at *
        obtain ⟨A, hA⟩ : ∃ A, A = wr.heap.size := ⟨_, rfl⟩
        rw [← hA] at hbx hza ⊢
        have hAr : A ≠ r ∧ A ≠ r2 ∧ A ≠ g ∧ A ≠ ga := by have h1 := CC.out.lt; have h2 := FF.out.rlt; have h3 := CC.out.glt; have h4 := FF.out.lt; omega
        have hC : Cur W0 r g s bad := CC.out.only hal (fun h => h) (fun h => h)
        have hF : Rf W0 r2 ga l s bad := FF.out.only hal (fun h => h) (fun h => h)
        have hO : Only (fun k => k = r ∨ k = r2) w5 W0 := OO.out.then (hal.mono (fun _ _ h => h.elim))
        have hszl : s.length ≤ 100 := by have := HL.out.1; omega
        have hll : l.length ≤ 100 := by have := HL.out.1; omega
        have C0 := Lib.hid hC
        have F0 := Lib.hid hF
        have O0 := Lib.hid hO
        have BX := Lib.hid hbx
        have HQ := Lib.hid hQ
        clear hbx hal hza hA hC hF hO CC FF OO d0 d1 d2 d3 HBW
        have hq : Q = 0 ∨ Q = 1 ∨ Q = 2 ∨ Q = 3 ∨ Q = 4 ∨ Q = 5 := by omega
        have hd0 : Only (fun _ => False) W0 W0.drew := (Only.refl _ W0).drew
        have C0d := Lib.hid (C0.out.only hd0 (fun h => h) (fun h => h))
        have F0d := Lib.hid (F0.out.only hd0 (fun h => h) (fun h => h))
        have bx0 := BX.out.only hd0 (fun h => h)
        have BX0 := Lib.hid bx0
        have O0d := Lib.hid (O0.out.then (hd0.mono (fun _ _ h => h.elim)))
        clear hd0 bx0
        go_cut [77] from 59 to 164 (fun _ wx => ∃ S2 B2, S2.length ≤ s.length ∧ Cur wx r g S2 B2 ∧ Rf wx r2 ga l S2 B2 ∧ Only (fun k => k = r ∨ k = r2) w5 wx)
        case first =>
          rcases hq with rfl | rfl | rfl | rfl | rfl | rfl
          · obtain ⟨V, hX⟩ : ∃ V : Nat, V = beN (outS s (wb bad K1) K1) := ⟨_, rfl⟩
            obtain ⟨S2, hS2⟩ : ∃ S2, S2 = leftS s (wb bad K1) K1 := ⟨_, rfl⟩
            obtain ⟨B2, hB2⟩ : ∃ B2, B2 = badS s (wb bad K1) K1 := ⟨_, rfl⟩
            have hsl2 : S2.length ≤ s.length := by rw [hS2]; exact leftS_le _ _ _
            have cU : ∀ wx, Cur wx r g s bad → Calls Try.prog 12 #[rp r, .int .i64 K1] wx (fun e w' => e = .returned (.int .i64 (V : Int)) ∧ Cur w' r g S2 B2 ∧ Only (· = r) wx w') := by
              intro wx h
              refine (uint_c r g s bad K1 wx h).mono ?_
              rintro e w' ⟨h1, h2, h3⟩
              rw [hX, hS2, hB2]
              exact ⟨h1, h2, h3⟩
            have cR : ∀ wx, Rf wx r2 ga l s bad → Calls Try.prog 21 #[rp r2, .int .i64 K1] wx (fun e w' => e = .returned (.int .i64 (V : Int)) ∧ Rf w' r2 ga l S2 B2 ∧ Only (· = r2) wx w') := by
              intro wx h
              refine (ruint_c r2 ga l s bad K1 wx h (by omega)).mono ?_
              rintro e w' ⟨h1, h2, h3⟩
              rw [hX, hS2, hB2]
              exact ⟨h1, h2, h3⟩
            have CU2 := Lib.hid (And.intro cU cR)
            clear cU cR hS2 hB2 hX
            have hr2lt : r2 < W0.drew.heap.size := F0d.out.rlt
            go_upto_region 12 with (fail)
            go_cut [88] from 59 to 164 (fun v wx => v = .bool false ∧ Cur wx r g S2 B2 ∧ Rf wx r2 ga l S2 B2 ∧ Only (fun k => k = r ∨ k = r2) w5 wx)
            case first =>
              go_region_held3 (fun w' => w'.cell? ⟨A, 1, none⟩ = some (.int .i64 K1)) (first | exact BX0.out.c1 | exact bxa.c1 | exact bxb.c1 | go_keep)
                (first
                  | (go_at_call 12; refine (CU2.out.1 _ C0d.out).mono ?_; rintro e wa ⟨rfl, ca1, oa⟩; have fa := F0d.out.only oa (fun e => hne1 e.symm) hne3; have bxa := BX0.out.only oa hAr.1)
                  | (go_at_call 21; refine (CU2.out.2 _ fa).mono ?_; rintro e wb' ⟨rfl, fb, ob⟩; have cb1 := ca1.only ob hne1 hne2; have bxb := bxa.only ob hAr.2.1))
              all_goals go_wp2
              all_goals go_meet
              all_goals exact ⟨by simp, cb1, fb, (O0d.out.then (oa.mono (fun _ _ h => .inl h))).then (ob.mono (fun _ _ h => .inr h))⟩
            case rest =>
              obtain ⟨rfl, hc2, hf2, ho2⟩ := hcut
              have HH := Lib.hid (And.intro hc2 (And.intro hf2 ho2))
              clear hc2 hf2 ho2
              go_wp2
              go_meet
              exact ⟨S2, B2, hsl2, HH.out⟩
          · obtain ⟨X, hX⟩ : ∃ X, X = outS s bad K2 := ⟨_, rfl⟩
            obtain ⟨S2, hS2⟩ : ∃ S2, S2 = leftS s bad K2 := ⟨_, rfl⟩
            obtain ⟨B2, hB2⟩ : ∃ B2, B2 = badS s bad K2 := ⟨_, rfl⟩
            have hsl2 : S2.length ≤ s.length := by rw [hS2]; exact leftS_le _ _ _
            have cU : ∀ wx, Cur wx r g s bad → Calls Try.prog 18 #[rp r, .int .i64 K2] wx (ToldX wx r X (fun w' => Cur w' r g S2 B2)) := by
              intro wx h
              have hh := (bytes_c r g s bad K2 wx h (by omega)).mono (fun e w' h => told_x h)
              rw [hX, hS2, hB2]
              exact hh
            have cR : ∀ wx, Rf wx r2 ga l s bad → Calls Try.prog 22 #[rp r2, .int .i64 K2] wx (ToldX wx r2 X (fun w' => Rf w' r2 ga l S2 B2)) := by
              intro wx h
              have hh := (rbytes_c r2 ga l s bad K2 wx h (by omega)).mono (fun e w' h => rtold_x h)
              rw [hX, hS2, hB2]
              exact hh
            have CU2 := Lib.hid (And.intro cU cR)
            clear cU cR hS2 hB2 hX
            have hr2lt : r2 < W0.drew.heap.size := F0d.out.rlt
            go_upto_region 15 with (fail)
            go_cut [101] from 59 to 164 (fun v wx => v = .bool false ∧ Cur wx r g S2 B2 ∧ Rf wx r2 ga l S2 B2 ∧ Only (fun k => k = r ∨ k = r2) w5 wx)
            case first =>
              go_region_held (fun w' => w'.cell? ⟨A, 2, none⟩ = some (.int .i64 K2)) (first | exact BX0.out.c2 | exact bxa.c2 | exact bxb.c2 | go_keep)
                (first
                  | (go_at_call 18; refine (CU2.out.1 _ C0d.out).mono ?_; rintro e wa ⟨g8, p8, n8, c8, rfl, l8, z8, h8, ca1, oa⟩; have fa := F0d.out.only oa (fun e => hne1 e.symm) hne3; have bxa := BX0.out.only oa hAr.1; have s1 := run_strO h8 l8)
                  | (go_at_call 22; refine (CU2.out.2 _ fa).mono ?_; rintro e wb' ⟨g9, p9, n9, c9, rfl, l9, z9, h9, fb, ob⟩; have cb1 := ca1.only ob hne1 hne2; have bxb := bxa.only ob hAr.2.1; have s2 := run_strO h9 l9; have s1' := run_strO (h8.only ob (by show ¬ g8 = r2; omega)) l8))
              all_goals go_wp2
              all_goals go_meet
              all_goals exact ⟨by simp, cb1, fb, (O0d.out.then (oa.mono (fun _ _ h => .inl h))).then (ob.mono (fun _ _ h => .inr h))⟩
            case rest =>
              obtain ⟨rfl, hc2, hf2, ho2⟩ := hcut
              have HH := Lib.hid (And.intro hc2 (And.intro hf2 ho2))
              clear hc2 hf2 ho2
              go_wp2
              go_meet
              exact ⟨S2, B2, hsl2, HH.out⟩
          · obtain ⟨X, hX⟩ : ∃ X, X = (vecS s bad K1 K2 K3).1 := ⟨_, rfl⟩
            obtain ⟨S2, hS2⟩ : ∃ S2, S2 = (vecS s bad K1 K2 K3).2.1 := ⟨_, rfl⟩
            obtain ⟨B2, hB2⟩ : ∃ B2, B2 = (vecS s bad K1 K2 K3).2.2 := ⟨_, rfl⟩
            have hsl2 : S2.length ≤ s.length := by rw [hS2]; exact vecS_le _ _ _ _ _
            have cU : ∀ wx, Cur wx r g s bad → Calls Try.prog 11 #[rp r, .int .i64 K1, .int .i64 K2, .int .i64 K3] wx (ToldX wx r X (fun w' => Cur w' r g S2 B2)) := by
              intro wx h
              have hh := (vector_c r g s bad K1 K2 K3 wx h (by omega)).mono (fun e w' h => told_x h)
              rw [hX, hS2, hB2]
              exact hh
            have cR : ∀ wx, Rf wx r2 ga l s bad → Calls Try.prog 23 #[rp r2, .int .i64 K1, .int .i64 K2, .int .i64 K3] wx (ToldX wx r2 X (fun w' => Rf w' r2 ga l S2 B2)) := by
              intro wx h
              have hh := (rvector_c r2 ga l s bad K1 K2 K3 wx h (by omega)).mono (fun e w' h => rtold_x h)
              rw [hX, hS2, hB2]
              exact hh
            have CU2 := Lib.hid (And.intro cU cR)
            clear cU cR hS2 hB2 hX
            have hr2lt : r2 < W0.drew.heap.size := F0d.out.rlt
            go_upto_region 19 with (fail)
            go_cut [123] from 59 to 164 (fun v wx => v = .bool false ∧ Cur wx r g S2 B2 ∧ Rf wx r2 ga l S2 B2 ∧ Only (fun k => k = r ∨ k = r2) w5 wx)
            case first =>
              go_region_held (fun w' => w'.cell? ⟨A, 1, none⟩ = some (.int .i64 K1) ∧ w'.cell? ⟨A, 2, none⟩ = some (.int .i64 K2) ∧ w'.cell? ⟨A, 3, none⟩ = some (.int .i64 K3)) (first | exact ⟨BX0.out.c1, BX0.out.c2, BX0.out.c3⟩ | exact ⟨bxa.c1, bxa.c2, bxa.c3⟩ | exact ⟨bxb.c1, bxb.c2, bxb.c3⟩ | go_keep)
                (first
                  | (go_at_call 11; refine (CU2.out.1 _ C0d.out).mono ?_; rintro e wa ⟨g8, p8, n8, c8, rfl, l8, z8, h8, ca1, oa⟩; have fa := F0d.out.only oa (fun e => hne1 e.symm) hne3; have bxa := BX0.out.only oa hAr.1; have s1 := run_strO h8 l8)
                  | (go_at_call 23; refine (CU2.out.2 _ fa).mono ?_; rintro e wb' ⟨g9, p9, n9, c9, rfl, l9, z9, h9, fb, ob⟩; have cb1 := ca1.only ob hne1 hne2; have bxb := bxa.only ob hAr.2.1; have s2 := run_strO h9 l9; have s1' := run_strO (h8.only ob (by show ¬ g8 = r2; omega)) l8))
              all_goals go_wp2
              all_goals go_meet
              all_goals exact ⟨by simp, cb1, fb, (O0d.out.then (oa.mono (fun _ _ h => .inl h))).then (ob.mono (fun _ _ h => .inr h))⟩
            case rest =>
              obtain ⟨rfl, hc2, hf2, ho2⟩ := hcut
              have HH := Lib.hid (And.intro hc2 (And.intro hf2 ho2))
              clear hc2 hf2 ho2
              go_wp2
              go_meet
              exact ⟨S2, B2, hsl2, HH.out⟩
          · obtain ⟨X, hX⟩ : ∃ X, X = (vecS s bad K1 K2 K3).1 := ⟨_, rfl⟩
            obtain ⟨S2, hS2⟩ : ∃ S2, S2 = (vecS s bad K1 K2 K3).2.1 := ⟨_, rfl⟩
            obtain ⟨B2, hB2⟩ : ∃ B2, B2 = (vecS s bad K1 K2 K3).2.2 := ⟨_, rfl⟩
            have hsl2 : S2.length ≤ s.length := by rw [hS2]; exact vecS_le _ _ _ _ _
            have cU : ∀ wx, Cur wx r g s bad → Calls Try.prog 11 #[rp r, .int .i64 K1, .int .i64 K2, .int .i64 K3] wx (ToldX wx r X (fun w' => Cur w' r g S2 B2)) := by
              intro wx h
              have hh := (vector_c r g s bad K1 K2 K3 wx h (by omega)).mono (fun e w' h => told_x h)
              rw [hX, hS2, hB2]
              exact hh
            have cR : ∀ wx, Rf wx r2 ga l s bad → Calls Try.prog 23 #[rp r2, .int .i64 K1, .int .i64 K2, .int .i64 K3] wx (ToldX wx r2 X (fun w' => Rf w' r2 ga l S2 B2)) := by
              intro wx h
              have hh := (rvector_c r2 ga l s bad K1 K2 K3 wx h (by omega)).mono (fun e w' h => rtold_x h)
              rw [hX, hS2, hB2]
              exact hh
            have CU2 := Lib.hid (And.intro cU cR)
            clear cU cR hS2 hB2 hX
            have hr2lt : r2 < W0.drew.heap.size := F0d.out.rlt
            go_upto_region 19 with (fail)
            go_cut [123] from 59 to 164 (fun v wx => v = .bool false ∧ Cur wx r g S2 B2 ∧ Rf wx r2 ga l S2 B2 ∧ Only (fun k => k = r ∨ k = r2) w5 wx)
            case first =>
              go_region_held (fun w' => w'.cell? ⟨A, 1, none⟩ = some (.int .i64 K1) ∧ w'.cell? ⟨A, 2, none⟩ = some (.int .i64 K2) ∧ w'.cell? ⟨A, 3, none⟩ = some (.int .i64 K3)) (first | exact ⟨BX0.out.c1, BX0.out.c2, BX0.out.c3⟩ | exact ⟨bxa.c1, bxa.c2, bxa.c3⟩ | exact ⟨bxb.c1, bxb.c2, bxb.c3⟩ | go_keep)
                (first
                  | (go_at_call 11; refine (CU2.out.1 _ C0d.out).mono ?_; rintro e wa ⟨g8, p8, n8, c8, rfl, l8, z8, h8, ca1, oa⟩; have fa := F0d.out.only oa (fun e => hne1 e.symm) hne3; have bxa := BX0.out.only oa hAr.1; have s1 := run_strO h8 l8)
                  | (go_at_call 23; refine (CU2.out.2 _ fa).mono ?_; rintro e wb' ⟨g9, p9, n9, c9, rfl, l9, z9, h9, fb, ob⟩; have cb1 := ca1.only ob hne1 hne2; have bxb := bxa.only ob hAr.2.1; have s2 := run_strO h9 l9; have s1' := run_strO (h8.only ob (by show ¬ g8 = r2; omega)) l8))
              all_goals go_wp2
              all_goals go_meet
              all_goals exact ⟨by simp, cb1, fb, (O0d.out.then (oa.mono (fun _ _ h => .inl h))).then (ob.mono (fun _ _ h => .inr h))⟩
            case rest =>
              obtain ⟨rfl, hc2, hf2, ho2⟩ := hcut
              have HH := Lib.hid (And.intro hc2 (And.intro hf2 ho2))
              clear hc2 hf2 ho2
              go_wp2
              go_meet
              exact ⟨S2, B2, hsl2, HH.out⟩
          · obtain ⟨_, _, _, _, _, _, hb9, _⟩ := F0.out.ex
            have cf := hb9.c2
            clear hb9
            by_cases hbad : bad = 0
            · subst hbad
              go_wp2_with (first
                | (go_at_call 10; refine (left_c r g s 0 _ C0.out).mono ?_; rintro e wa ⟨rfl, rfl⟩)
                | (go_at_call 24; refine (rleft_c r2 ga l s 0 _ F0.out).mono ?_; rintro e wl ⟨rfl, ol⟩))
              go_meet
              exact ⟨s, 0, Nat.le_refl _, C0.out.only ol (fun h => h) (fun h => h), F0.out.only ol (fun h => h) (fun h => h), O0.out.then (ol.mono (fun _ _ h => h.elim))⟩
            · have hbe : (bad == 0) = false := by simpa using hbad
              go_wp2
              go_meet
              exact ⟨s, bad, Nat.le_refl _, C0.out, F0.out, O0.out⟩
          · by_cases hbad : bad = 0
            · subst hbad
              go_upto_region 26 with (go_at_call 20; refine (fail_c r g s 0 _ C0.out).mono ?_; rintro e wa ⟨rfl, ca1, oa⟩)
              have fa := F0.out.only oa (fun e => hne1 e.symm) hne3
              obtain ⟨_, _, _, _, _, _, hb9, _⟩ := id fa.ex
              have cf := hb9.c2
              have ff := hb9.fr 2
              clear hb9
              have hfN := fa.fail 3
              have hsO : Only (· = r2) wa (wa.setCell ⟨r2, 2, none⟩ (.int .i64 3)) := (Only.refl (fun k => k = r2) wa).setCell ⟨r2, 2, none⟩ _ (.inl rfl)
              have hcN : Cur (wa.setCell ⟨r2, 2, none⟩ (.int .i64 3)) r g s 3 := ca1.only hsO hne1 hne2
              have hoN := (O0.out.then (oa.mono (fun _ _ h => .inl h))).then (hsO.mono (fun _ _ h => .inr h))
              have HH := Lib.hid (And.intro hcN (And.intro hfN hoN))
              clear hcN hfN hoN hsO ca1 oa fa
              go_wp2
              go_meet
              exact ⟨s, 3, Nat.le_refl _, HH.out⟩
            · have hbe : (bad == 0) = false := by simpa using hbad
              have hrm : rm bad 3 = bad := by unfold rm; rw [if_neg hbad]
              go_upto_region 26 with (go_at_call 20; refine (fail_c r g s bad _ C0.out).mono ?_; rintro e wa ⟨rfl, ca1, oa⟩)
              rw [hrm] at ca1
              have fa := F0.out.only oa (fun e => hne1 e.symm) hne3
              obtain ⟨_, _, _, _, _, _, hb9, _⟩ := id fa.ex
              have cf := hb9.c2
              clear hb9
              have hoN := O0.out.then (oa.mono (fun _ _ h => .inl h))
              have HH := Lib.hid (And.intro ca1 (And.intro fa hoN))
              clear ca1 fa hoN oa
              go_wp2
              go_meet
              exact ⟨s, bad, Nat.le_refl _, HH.out⟩
        case rest =>
          obtain ⟨S2, B2, hsl2, hc2, hf2, ho2⟩ := hcut
          have hdn : Only (fun _ => False) wc wc.drew := (Only.refl _ _).drew
          have CND := Lib.hid (hc2.only hdn (fun h => h) (fun h => h))
          have FND := Lib.hid (hf2.only hdn (fun h => h) (fun h => h))
          have ONd := Lib.hid (ho2.then (hdn.mono (fun _ _ h => h.elim)))
          clear hdn hc2 hf2 ho2
          obtain ⟨_, _, _, _, _, _, hb3, _⟩ := FND.out.ex
          have cz := hb3.c2
          clear hb3
          go_upto_region 28 with (fail)
          by_cases hz : B2 = 0
          · subst hz
            go_region_held3 (fun w' => w'.cell? ⟨r2, 2, none⟩ = some (.int .i64 0)) (first | exact cz | exact czy | go_keep)
              (first
                | (go_at_call 14; refine (done_c r g S2 0 _ CND.out).mono ?_; rintro e wx ⟨rfl, rfl⟩)
                | (go_at_call 25; refine (rdone_c r2 ga l S2 0 _ FND.out).mono ?_; rintro e wy ⟨rfl, oy⟩; have cy := CND.out.only oy (fun h => h) (fun h => h); have fy := FND.out.only oy (fun h => h) (fun h => h); obtain ⟨_, _, _, _, _, _, hb4, _⟩ := id fy.ex; have czy := hb4.c2; clear hb4)
                | (go_at_call 15; refine (isWrong_c r g S2 0 _ cy).mono ?_; rintro e wz ⟨rfl, rfl⟩))
            all_goals go_wp2
            all_goals exact ⟨⟨i + 1, S2, 0, by simp, by omega, by omega, by omega, cy, fy, ONd.out.then (oy.mono (fun _ _ h => h.elim))⟩, by simp [intOf]; omega⟩
          · have hz1' : decide (B2 ≠ 0) = true := decide_eq_true hz
            have hz2' : (B2 != 0) = true := by simpa using hz
            go_region_held3 (fun w' => w'.cell? ⟨r2, 2, none⟩ = some (.int .i64 B2)) (first | exact cz | exact czy | go_keep)
              (first
                | (go_at_call 14; refine (done_c r g S2 B2 _ CND.out).mono ?_; rintro e wx ⟨rfl, rfl⟩)
                | (go_at_call 25; refine (rdone_c r2 ga l S2 B2 _ FND.out).mono ?_; rintro e wy ⟨rfl, oy⟩; have cy := CND.out.only oy (fun h => h) (fun h => h); have fy := FND.out.only oy (fun h => h) (fun h => h); obtain ⟨_, _, _, _, _, _, hb4, _⟩ := id fy.ex; have czy := hb4.c2; clear hb4)
                | (go_at_call 15; refine (isWrong_c r g S2 B2 _ cy).mono ?_; rintro e wz ⟨rfl, rfl⟩))
            all_goals go_wp2
            all_goals exact ⟨⟨i + 1, S2, B2, by simp, by omega, by omega, by omega, cy, fy, ONd.out.then (oy.mono (fun _ _ h => h.elim))⟩, by simp [intOf]; omega⟩
      · have hbw : Below w.heap.size w wr := below_only B5.out B5.out.size OO.out (by intro k hk e; omega)
        have hdn : Only (fun _ => False) wr wr.drew := (Only.refl _ _).drew
        obtain ⟨_, _, n9, c9, a9, en, ea, es, hb9, hR9, _, _⟩ := FF.out.only hdn (fun h => h) (fun h => h)
        have cz := hb9.c0
        have ow9 := ((OW.out.only OO.out (by show ¬ (g0 = r ∨ g0 = r2); omega)).only hdn (fun h => h))
        have s1 := run_strO ow9 HL.out.1
        have s2 := run_str (c := c9) hR9 en
        have HBW := Lib.hid hbw
        clear hbw hdn hb9 hR9 ow9 CC FF OO OW
        by_cases hlt : i < len
        · have i1 : (i : Int) < (len : Int) := by omega
          have i2 : ¬ (i : Int) < 30 := by omega
          go_upto_region 30 with (fail)
          go_region_held (fun w' => w'.cell? ⟨r2, 0, none⟩ = some (.slice (some ⟨ga, 0, none⟩) n9 c9)) (first | exact cz | go_keep) (first | fail)
          all_goals go_wp2
          all_goals go_ret
          all_goals exact ⟨rfl, HBW.out.drew⟩
        · have i1 : ¬ (i : Int) < (len : Int) := by omega
          go_upto_region 30 with (fail)
          go_region_held (fun w' => w'.cell? ⟨r2, 0, none⟩ = some (.slice (some ⟨ga, 0, none⟩) n9 c9)) (first | exact cz | go_keep) (first | fail)
          all_goals go_wp2
          all_goals go_ret
          all_goals exact ⟨rfl, HBW.out.drew⟩
end Go.Proofs.Ytmmifenihjmmiaa
