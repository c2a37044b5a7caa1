/-
  The contract of snap.Put. Conditions: the State's bytes lie still.
-/
import Derived.Test.YtfilngbedlkhjaaSnC
namespace Go.Proofs.Ytfilngbedlkhjaa
open Go.RowKit Go.Kx
set_option linter.unusedVariables false
set_option linter.unusedSimpArgs false

theorem blk_cells {wx : World} {r : Nat} {t : TypeId} {C : Array Value} {ph : Int} {lg : Value} {sm : List UInt8} {a b c d : Int} {sl : Bool} {pt us : Value} {al : Int} (hb : wx.heap[r]? = some (.cells C t (0, 0))) (h : StC C ph lg sm a b c d sl pt us al) :
    wx.cell? ⟨r, 0, none⟩ = some (.int .i64 ph) ∧ wx.cell? ⟨r, 1, none⟩ = some lg ∧ wx.cell? ⟨r, 226, none⟩ = some (.int .i64 a) ∧ wx.cell? ⟨r, 227, none⟩ = some (.int .i64 b) ∧ wx.cell? ⟨r, 228, none⟩ = some (.int .i64 c) ∧ wx.cell? ⟨r, 229, none⟩ = some (.int .i64 d) ∧ wx.cell? ⟨r, 230, none⟩ = some (.bool sl) ∧ wx.cell? ⟨r, 231, none⟩ = some pt ∧ wx.cell? ⟨r, 232, none⟩ = some us ∧ wx.cell? ⟨r, 233, none⟩ = some (.int .i64 al) := by
  have k := StB.cellC hb
  exact ⟨(k 0).trans h.e0, (k 1).trans h.e1, (k 226).trans h.e226, (k 227).trans h.e227, (k 228).trans h.e228, (k 229).trans h.e229, (k 230).trans h.e230, (k 231).trans h.e231, (k 232).trans h.e232, (k 233).trans h.e233⟩
theorem blk_range {wx : World} {r : Nat} {t : TypeId} {C : Array Value} {fr : Nat × Nat} (hb : wx.heap[r]? = some (.cells C t fr)) : wx.rangeAt r 0 C.toList := by
  intro j v hv
  rw [cell_of_row wx r (0 + j) C t fr hb, Nat.zero_add]
  simpa using hv
theorem Own.lit2 (w : World) (b1 b2 : UInt8) : Own (w.alloc (.cells #[.int .u8 (b1.toNat : Int), .int .u8 (b2.toNat : Int)] 5)) w.heap.size (.slice (some ⟨w.heap.size, 0, none⟩) 2 2) [b1, b2] :=
  ⟨⟨by simp, .inr ⟨w.heap.size, 2, #[.int .u8 (b1.toNat : Int), .int .u8 (b2.toNat : Int)], by simp, Nat.zero_le _, heap_alloc_new w _, by simp, by simp [maxLen], by simp, by simp⟩⟩, .inr rfl⟩

theorem Try.infoS : (Try.prog.info? 35).map (·.size) = some 234 := by kernel_rfl

def SPutNo (w : World) (e : Ending) (w' : World) : Prop := e = .returned (.tuple #[.slice none 0 0, .int .i64 1]) ∧ Below w.heap.size w w'

set_option maxHeartbeats 4000000 in
set_option maxRecDepth 100000 in
theorem sput_no (s : St) (C : Array Value) (v : Int) (w : World) (h : IsSt w C s) (hn : ¬ (okS s ∧ 1 ≤ v ∧ v ≤ 3)) : Calls Try.prog 8 #[.agg C, .int .i64 v] w (SPutNo w) := by
  have hsz : C.toList.length = 234 := by obtain ⟨_, _, _, hC, _⟩ := h; simpa using hC.size
  have hrg := blk_range (heap_alloc_new w (.cells C 35))
  have hB : Below w.heap.size w (w.alloc (.cells C 35)) := (Below.refl _ _).alloc (Nat.le_refl _) _
  have H := Lib.hid (And.intro (h.below hB) (And.intro hrg (And.intro hB hsz)))
  clear h hrg hB hsz
  have hE : ∀ w1, Below (w.alloc (.cells C 35)).heap.size (w.alloc (.cells C 35)) w1 → Below w.heap.size w w1 := fun w1 b1 => H.out.2.2.1.trans (b1.mono H.out.2.2.1.size)
  have HE := Lib.hid hE
  clear hE
  by_cases hk : okS s
  · have hd : decide (okS s) = true := decide_eq_true hk
    have hv : decide (1 ≤ v ∧ v ≤ 3) = false := decide_eq_false (fun h => hn ⟨hk, h⟩)
    clear hk hn
    go_enter Try.func8, Try.ntmps8
    go_wp2_with (first
      | (refine wpList_load_mid rfl 35 (.tmp 2) rfl w.heap.size 0 rfl C.toList _ H.out.2.1 Try.underlying35 rfl (by rw [H.out.2.2.2]; exact Try.infoS) ?_; rw [Array.toArray_toList])
      | (go_at_call 12; refine (right_s C s _ H.out.1).mono ?_; rintro e w1 ⟨rfl, b1⟩)
      | (go_at_call 17; refine (between_c _ _ _ _).mono ?_; rintro e w2 ⟨rfl, rfl⟩))
    go_ret2
    exact ⟨rfl, HE.out _ b1⟩
  · have hd : decide (okS s) = false := decide_eq_false hk
    clear hk hn
    go_enter Try.func8, Try.ntmps8
    go_wp2_with (first
      | (refine wpList_load_mid rfl 35 (.tmp 2) rfl w.heap.size 0 rfl C.toList _ H.out.2.1 Try.underlying35 rfl (by rw [H.out.2.2.2]; exact Try.infoS) ?_; rw [Array.toArray_toList])
      | (go_at_call 12; refine (right_s C s _ H.out.1).mono ?_; rintro e w1 ⟨rfl, b1⟩))
    go_ret2
    exact ⟨rfl, HE.out _ b1⟩

/-- Where the seven pointers lie, and what is put yet. -/
def SRel (w0 : World) (r : Nat) (C : Array Value) (gs : Nat) (N : Nat) (l sm : List UInt8) (v6 v29 : Value) (wr : World) : Prop :=
  ∃ i g n c : Nat, v29 = .int .i64 (i : Int) ∧ v6 = .slice (some ⟨g, 0, none⟩) n c ∧ i ≤ 7 ∧ n ≤ N + 32 * i ∧ Bf w0 r 35 C wr g n c (l ++ sm.take (32 * i)) ∧ gs < wr.heap.size ∧ g ≠ gs ∧ (∀ k, k < 7 → wr.cell? ⟨gs, k, none⟩ = some (.pointer (some ⟨r, 2 + 32 * k, none⟩)))

set_option maxHeartbeats 4000000 in
set_option maxRecDepth 100000 in
theorem sput_yes (s : St) (C : Array Value) (v : Nat) (w : World) (h : IsSt w C s) (hs : okS s) (hv : 1 ≤ v ∧ v ≤ 3) : Calls Try.prog 8 #[.agg C, .int .i64 (v : Int)] w (SPutYes w (snB s v)) := by
  obtain ⟨lg, pt, us, hC, ⟨p1, n1, c1, rfl, l1, R1, z1, y1, x1⟩, ⟨p2, n2, c2, rfl, l2, R2, z2, y2, x2⟩, ⟨p3, n3, c3, rfl, l3, R3, z3, y3, x3⟩⟩ := id h
  have hsz : C.toList.length = 234 := by simpa using hC.size
  have hrg := blk_range (heap_alloc_new w (.cells C 35))
  have hB : Below w.heap.size w (w.alloc (.cells C 35)) := (Below.refl _ _).alloc (Nat.le_refl _) _
  have hbk := heap_alloc_new w (.cells C 35)
  have HS := Lib.hid hs
  have hd : decide (okS s) = true := decide_eq_true hs
  have hvd : decide (1 ≤ (v : Int) ∧ (v : Int) ≤ 3) = true := decide_eq_true (by omega)
  obtain ⟨⟨a1, a2⟩, ⟨b1, b2⟩, ⟨k1, k2⟩, ⟨d1, d2⟩, ⟨f1, f2⟩, ⟨g1, g2⟩, m1, m2, m3⟩ := hs
  obtain ⟨ph, lgs, sm, a, b, c, d, sl, pts, uss, al⟩ := s
  simp only at *
  have i1 : IntKind.u8.wrap (v : Int) = (v : Int) := by rw [IntKind.wrap_u8]; omega
  have i2 : IntKind.u8.wrap ph = ph := by rw [IntKind.wrap_u8]; omega
  have i3 : IntKind.u8.wrap a = a := by rw [IntKind.wrap_u8]; omega
  have i4 : IntKind.u8.wrap b = b := by rw [IntKind.wrap_u8]; omega
  have hn1 : n1 ≤ 20000 := by omega
  have hn2 : n2 ≤ 4096 := by omega
  have hn3 : n3 ≤ 255 := by omega
  have HR := Lib.hid (And.intro (h.below hB) (And.intro hrg (And.intro hB hsz)))
  have HQ := Lib.hid (And.intro (And.intro l1 (And.intro R1 z1)) (And.intro (And.intro l2 (And.intro R2 z2)) (And.intro l3 (And.intro R3 z3))))
  have HC := Lib.hid hC
  have HK := Lib.hid hbk
  clear h hrg hB hsz hbk hC l1 R1 z1 l2 R2 z2 l3 R3 z3 m1 m2 m3 y1 x1 y2 x2 y3 x3
  go_enter Try.func8, Try.ntmps8
  go_upto_region 4 with (first
      | (refine wpList_load_mid rfl 35 (.tmp 2) rfl w.heap.size 0 rfl C.toList _ HR.out.2.1 Try.underlying35 rfl (by rw [HR.out.2.2.2]; exact Try.infoS) ?_; rw [Array.toArray_toList])
      | (go_at_call 12; refine (right_s C _ _ HR.out.1).mono ?_; rintro e w1 ⟨rfl, b1⟩; have z1 : w.heap.size < w1.heap.size := (by have := b1.size; simp at this; omega); obtain ⟨e0, e1, e2, e3, e4, e5, e6, e7, e8, e9⟩ := blk_cells ((b1.block _ (by simp)).trans HK.out) HC.out)
      | (go_at_call 17; refine (between_c _ _ _ _).mono ?_; rintro e w2 ⟨rfl, rfl⟩))
  obtain ⟨L0, hL0⟩ : ∃ L, L = be v 1 ++ be ph.toNat 1 := ⟨_, rfl⟩
  have hb0 : Bf w w.heap.size 35 C (w1.alloc (.cells #[.int .u8 (v : Int), .int .u8 ph] 5)) w1.heap.size 2 2 L0 := by
    have hB1 : Below w.heap.size w w1 := HR.out.2.2.1.trans (b1.mono HR.out.2.2.1.size)
    have e1 : ((UInt8.ofNat v).toNat : Int) = (v : Int) := by rw [UInt8.toNat_ofNat']; omega
    have e2 : ((UInt8.ofNat ph.toNat).toNat : Int) = ph := by rw [UInt8.toNat_ofNat']; omega
    have ho := Own.lit2 w1 (UInt8.ofNat v) (UInt8.ofNat ph.toNat)
    rw [e1, e2] at ho
    have hl : L0 = [UInt8.ofNat v, UInt8.ofNat ph.toNat] := by rw [hL0]; simp [be]
    rw [hl]
    exact ⟨(((Below.refl _ w1).alloc (Nat.le_refl _) _).block _ z1).trans ((b1.block _ (by simp)).trans HK.out), hB1.alloc hB1.size _, ho, rfl, Nat.le_refl _, hB1.size, by simp, by omega, by omega, by simp [maxLen]⟩
  have HL0 := Lib.hid hL0
  have HB0 := Lib.hid hb0
  clear hL0 hb0 e0 e1 e2 e3 e4 e5 e6 e7 e8 e9 z1 b1
  refine (putV HB0.out _ _ _ _ _ _ (by omega) HQ.out.1.1 HQ.out.1.2.2 HQ.out.1.2.1 (by simp; omega) (by omega) (by omega)).mono ?_
  rintro e w2 ⟨g, n, c5, rfl, hle, hB⟩
  have HB := Lib.hid hB
  clear hB
  go_upto_block 0 with (go_at_call 19; refine (sums_c _ _).mono ?_; rintro e w3 ⟨gs, rfl, q1, q2, q3, q4⟩)
  have hB3 := HB.out.below q4
  have HB3 := Lib.hid hB3
  obtain ⟨L1, hL1⟩ : ∃ L, L = L0 ++ (be n1 (2 : Int).toNat ++ lgs) := ⟨_, rfl⟩
  rw [← hL1] at HB HB3
  have HL1 := Lib.hid hL1
  have hgs : g ≠ gs := by have := HB.out.glt; omega
  have hle2 : n ≤ 20006 := by omega
  have HC0 := Lib.hid q3
  have HSM := Lib.hid HC.out.len
  clear hB3 hL1 q4 q3 HB hle
  go_cut [6] (fun v6 wx => ∃ g n c : Nat, v6 = .slice (some ⟨g, 0, none⟩) n c ∧ n ≤ 20230 ∧ Bf w w.heap.size 35 C wx g n c (L1 ++ sm))
  case first =>
    go_wp2_with fail
    go_loopw [6, 29] (fun v6 v29 wr => SRel w w.heap.size C gs 20006 L1 sm v6 v29 wr) (fun _ v29 _ => 7 - (intOf v29).toNat)
    case atStart => exact ⟨0, g, n, c5, rfl, rfl, by omega, by omega, by simpa using HB3.out, q2, hgs, HC0.out⟩
    case round =>
      obtain ⟨i, g, n, c, rfl, rfl, hi, hn, hB, hgl, hgg, hp⟩ := hrel
      have HB := Lib.hid hB
      by_cases hlt : i < 7
      · have d0 := hp i hlt
        have HP := Lib.hid hp
        have hrd := StB.sum ⟨C, hB.blk, HC.out⟩ i hlt
        have hrl : ((sm.drop (32 * i)).take 32).length = 32 := by rw [List.length_take, List.length_drop, HSM.out]; omega
        have HRD := Lib.hid (And.intro hrd hrl)
        clear hB hp hrd hrl
        go_wp2_with (at_builtin; refine wpList_append_bytes _ rfl (.tmp 33) (.tmp 36) 22 rfl Try.underlying22 Try.info5 g _ (L1 ++ sm.take (32 * i)) rfl HB.out.own (· = w.heap.size) _ 32 32 ((sm.drop (32 * i)).take 32) rfl HRD.out.2 (by intro h; cases h) HRD.out.1 (by rw [HRD.out.2, HB.out.len]; omega) ?_; intro g' vx w4 ho' hg' hO hnil)
        obtain ⟨n', c', rfl, hle', hB'⟩ := HB.out.app hnil ho' hg' hO
        rw [HRD.out.2] at hle'
        have e : L1 ++ sm.take (32 * i) ++ (sm.drop (32 * i)).take 32 = L1 ++ sm.take (32 * (i + 1)) := by
          rw [List.append_assoc, show 32 * (i + 1) = 32 * i + 32 by omega, List.take_add]
        rw [e] at hB'
        have HB2 := Lib.hid hB'
        have hgl' : gs < w4.heap.size := Nat.lt_of_lt_of_le hgl hO.size
        have hgg' : g' ≠ gs := by rcases hg' with h | h <;> omega
        have HP2 := Lib.hid (fun k (hk : k < 7) => (only_cell hO (p := ⟨gs, k, none⟩) hgl (by show ¬ gs = g; omega)).trans (HP.out k hk))
        clear hB' hnil ho' hg' hO d0 e
        go_wp2
        exact ⟨⟨i + 1, g', n', c', by simp, rfl, by omega, by omega, HB2.out, hgl', hgg', HP2.out⟩, by simp [intOf]; omega⟩
      · have hi7 : i = 7 := by omega
        have e : L1 ++ sm.take (32 * i) = L1 ++ sm := by rw [hi7, List.take_of_length_le (by rw [HSM.out]; omega)]
        have HE := Lib.hid e
        have hn' : n ≤ 20230 := by omega
        have hi8 : ¬ (i : Int) < 7 := by omega
        clear hB hp hi7 e
        go_wp2
        go_meet
        exact ⟨g, n, c, rfl, hn', by rw [← HE.out]; exact HB.out⟩
  case rest =>
    obtain ⟨g, n, cq, rfl, hn, hB⟩ := hcut
    have HB := Lib.hid hB
    have hSS : ∀ wx : World, wx.heap[w.heap.size]? = some (.cells C 35 (0, 0)) → wx.cell? ⟨w.heap.size, 228, none⟩ = some (.int .i64 c) ∧ wx.cell? ⟨w.heap.size, 229, none⟩ = some (.int .i64 d) := fun wx hb => ⟨(blk_cells hb HC.out).2.2.2.2.1, (blk_cells hb HC.out).2.2.2.2.2.1⟩
    have hST : ∀ wx : World, wx.heap[w.heap.size]? = some (.cells C 35 (0, 0)) → wx.cell? ⟨w.heap.size, 231, none⟩ = some (.slice p2 n2 c2) := fun wx hb => (blk_cells hb HC.out).2.2.2.2.2.2.2.1
    have SS := Lib.hid hSS
    have ST := Lib.hid hST
    have hrl : w.heap.size < wc.heap.size := (Array.getElem?_eq_some_iff.1 hB.blk).1
    obtain ⟨L3, hL3⟩ : ∃ L, L = (L1 ++ sm) ++ [UInt8.ofNat a.toNat, UInt8.ofNat b.toNat] := ⟨_, rfl⟩
    have HL3 := Lib.hid hL3
    have hb0 := hB.below ((Below.refl _ wc).alloc (Nat.le_refl _) (.cells #[.int .u8 a, .int .u8 b] 5))
    have hlit : Rd (wc.alloc (.cells #[.int .u8 a, .int .u8 b] 5)) (· = wc.heap.size) (some ⟨wc.heap.size, 0, none⟩) [UInt8.ofNat a.toNat, UInt8.ofNat b.toNat] := by
      have ho := (Own.lit2 wc (UInt8.ofNat a.toNat) (UInt8.ofNat b.toNat)).rd
      rw [show ((UInt8.ofNat a.toNat).toNat : Int) = a by rw [UInt8.toNat_ofNat']; omega, show ((UInt8.ofNat b.toNat).toNat : Int) = b by rw [UInt8.toNat_ofNat']; omega] at ho
      exact ho
    have HB0 := Lib.hid (And.intro hb0 hlit)
    obtain ⟨e0, e1, e2, e3, e4, e5, e6, e7, e8, e9⟩ := blk_cells hB.blk HC.out
    clear hB hSS hST hL3 hb0 hlit e0 e1 e4 e5 e6 e7 e8 e9
    go_upto_region 10 with (at_builtin; refine wpList_append_bytes _ rfl (.tmp 39) (.tmp 46) 22 rfl Try.underlying22 Try.info5 g _ (L1 ++ sm) rfl HB0.out.1.own (· = wc.heap.size) _ 2 2 [UInt8.ofNat a.toNat, UInt8.ofNat b.toNat] rfl rfl (by intro h; cases h) HB0.out.2 (by rw [HB0.out.1.len]; simp; omega) ?_; intro g4 vx w4 ho' hg' hO hnil; obtain ⟨n4, c4, rfl, hle4, hB4⟩ := HB0.out.1.app hnil ho' hg' hO)
    simp only [List.length_cons, List.length_nil] at hle4
    rw [← HL3.out] at hB4
    have hn4 : n4 ≤ 20240 := by omega
    have HB4 := Lib.hid (hB4.below ((Below.refl _ _).drew))
    clear hnil ho' hg' hO hB4 e2 e3
    obtain ⟨L5, hL5⟩ : ∃ L, L = L3 ++ be c.toNat (2 : Int).toNat ++ be d.toNat (2 : Int).toNat := ⟨_, rfl⟩
    have HL5 := Lib.hid hL5
    clear hL5
    go_cut [6] (fun v6 wx => ∃ g n cq : Nat, v6 = .slice (some ⟨g, 0, none⟩) n cq ∧ n ≤ 20250 ∧ Bf w w.heap.size 35 C wx g n cq L5)
    case first =>
      go_region_held3 (fun w' => w'.cell? ⟨w.heap.size, 228, none⟩ = some (.int .i64 c) ∧ w'.cell? ⟨w.heap.size, 229, none⟩ = some (.int .i64 d)) (first | exact SS.out _ hB7.blk | exact SS.out _ hB6.blk | exact SS.out _ HB4.out.blk | go_keep)
        (first
          | (go_at_call 20; have hq := hB6; refine (putU hB6 _ _ (by omega) (by omega) (by simp; omega) (by omega)).mono ?_; rintro e w7 ⟨g7, n7, c7, rfl, hle7, hB7⟩)
          | (go_at_call 20; refine (putU HB4.out _ _ (by omega) (by omega) (by simp; omega) (by omega)).mono ?_; rintro e w6 ⟨g6, n6, c6, rfl, hle6, hB6⟩))
      all_goals go_wp2
      all_goals go_meet
      all_goals exact ⟨g7, n7, c7, rfl, by omega, by rw [HL5.out]; exact hB7⟩
    case rest =>
      obtain ⟨g, n, cr, rfl, hn, hB⟩ := hcut
      have HB := Lib.hid (hB.below ((Below.refl _ _).drew))
      obtain ⟨L6, hL6⟩ : ∃ L, L = L5 ++ be (if sl then 1 else 0) 1 ++ (be n2 2 ++ pts) := ⟨_, rfl⟩
      have hF : snB { ph := ph, lg := lgs, sm := sm, a := a, b := b, c := c, d := d, sl := sl, pt := pts, us := uss, al := al } v = L6 ++ ((if 2 ≤ v then be n3 1 ++ uss else []) ++ (if 3 ≤ v then be (al + 1).toNat 2 else [])) := by
        rw [hL6, HL5.out, HL3.out, HL1.out, HL0.out]
        unfold snB bdB usB alB
        simp only [HQ.out.1.1, HQ.out.2.1.1, HQ.out.2.2.1]
        simp [be]
      have HF := Lib.hid hF
      have HL6 := Lib.hid hL6
      obtain ⟨-, -, -, -, -, -, e6, -, -, -⟩ := blk_cells hB.blk HC.out
      clear hB hF hL6
      cases sl
      all_goals
        go_upto_region 14 with (fail)
        go_cut [6] (fun v6 wx => ∃ g n cq : Nat, v6 = .slice (some ⟨g, 0, none⟩) n cq ∧ n ≤ 25000 ∧ Bf w w.heap.size 35 C wx g n cq L6)
        case first =>
          go_region_held3 (fun w' => w'.cell? ⟨w.heap.size, 231, none⟩ = some (.slice p2 n2 c2)) (first | exact ST.out _ hB7.blk | exact ST.out _ hB6.blk | exact ST.out _ HB.out.blk | go_keep)
            (first
              | (go_at_call 18; refine (putV hB6 _ _ _ _ _ _ (by omega) HQ.out.2.1.1 HQ.out.2.1.2.2 HQ.out.2.1.2.1 (by simp; omega) (by omega) (by omega)).mono ?_; rintro e w7 ⟨g7, n7, c7, rfl, hle7, hB7⟩)
              | (go_at_call 20; refine (putU HB.out _ _ (by omega) (by omega) (by simp) (by omega)).mono ?_; rintro e w6 ⟨g6, n6, c6, rfl, hle6, hB6⟩))
          all_goals go_wp2
          all_goals go_meet
          all_goals exact ⟨g7, n7, c7, rfl, by omega, by rw [HL6.out]; simpa using hB7⟩
        case rest =>
          obtain ⟨g, n, cr, rfl, hn, hB⟩ := hcut
          obtain ⟨-, -, -, -, -, -, -, -, e8, e9⟩ := blk_cells hB.blk HC.out
          go_wp2_with (first
            | (go_at_call 18; refine (putV hB _ _ _ _ _ _ (by omega) HQ.out.2.2.1 HQ.out.2.2.2.2 HQ.out.2.2.2.1 (by simp; omega) (by omega) (by omega)).mono ?_; rintro e w8 ⟨g8, n8, c8, rfl, hle8, hB8⟩; obtain ⟨-, -, -, -, -, -, -, -, -, e9'⟩ := blk_cells hB8.blk HC.out)
            | (go_at_call 20; have hq := hB8; refine (putU hB8 _ _ (by omega) (by omega) (by simp; omega) (by omega)).mono ?_; rintro e w9 ⟨g9, n9, c9, rfl, hle9, hB9⟩))
          all_goals go_ret2
          · exact hB9.done (by rw [HF.out, if_pos (by omega), if_pos (by omega), ← List.append_assoc]; rfl)
          · exact hB8.done (by rw [HF.out, if_pos (by omega), if_neg (by omega), List.append_nil]; rfl)
          · exact hB.done (by rw [HF.out, if_neg (by omega), if_neg (by omega)]; simp)
end Go.Proofs.Ytfilngbedlkhjaa
