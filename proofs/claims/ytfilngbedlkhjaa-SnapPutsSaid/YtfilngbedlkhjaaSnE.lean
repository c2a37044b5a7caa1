/-
  The contract of relayref18.Put. Conditions: the State's bytes lie still.
-/
import Derived.Test.YtfilngbedlkhjaaSnD
import Derived.Test.YtfilngbedlkhjaaRefD
namespace Go.Proofs.Ytfilngbedlkhjaa
open Go.RowKit Go.Kx
set_option linter.unusedVariables false
set_option linter.unusedSimpArgs false

theorem Try.infoT : (Try.prog.info? 26).map (·.size) = some 234 := by kernel_rfl

def TPutNo (w : World) (e : Ending) (w' : World) : Prop := e = .returned (.tuple #[.slice none 0 0, .bool false]) ∧ Below w.heap.size w w'
def TPutYes (w : World) (X : List UInt8) (e : Ending) (w' : World) : Prop := ∃ g n c, e = .returned (.tuple #[.slice (some ⟨g, 0, none⟩) n c, .bool true]) ∧ X.length = n ∧ w.heap.size ≤ g ∧ g < w'.heap.size ∧ n ≤ c ∧ c ≤ maxLen ∧ Own w' g (.slice (some ⟨g, 0, none⟩) n c) X ∧ Below w.heap.size w w'
theorem Bf.tone {w wx : World} {r g n c : Nat} {t : TypeId} {C : Array Value} {l X : List UInt8} (h : Bf w r t C wx g n c l) (hX : X = l) : TPutYes w X (.returned (.tuple #[.slice (some ⟨g, 0, none⟩) n c, .bool true])) wx := by
  subst hX
  exact ⟨g, n, c, rfl, h.len, h.gge, h.glt, h.cap, h.cam, h.own, h.bel⟩

/-- What a call of the document's that puts more leaves. -/
def BufT (w0 : World) (r : Nat) (t : TypeId) (C : Array Value) (N : Nat) (l : List UInt8) (e : Ending) (w' : World) : Prop := ∃ g n c, e = .returned (.tuple #[.slice (some ⟨g, 0, none⟩) n c, .bool true]) ∧ n ≤ N ∧ Bf w0 r t C w' g n c l

theorem tputU {w0 wx : World} {r g n c : Nat} {t : TypeId} {C : Array Value} {l : List UInt8} (h : Bf w0 r t C wx g n c l) (x y : Int) (hx : 0 ≤ x) (hy : 1 ≤ y ∧ y ≤ 4) (hk : x.toNat < 256 ^ y.toNat) (hn : n ≤ 100000) :
    Calls Try.prog 28 #[.slice (some ⟨g, 0, none⟩) n c, .int .i64 x, .int .i64 y] wx (BufT w0 r t C (n + 4) (l ++ be x.toNat y.toNat)) := by
  obtain ⟨k, rfl⟩ : ∃ k : Nat, x = k := ⟨x.toNat, by omega⟩
  obtain ⟨W, rfl⟩ : ∃ W : Nat, y = W := ⟨y.toNat, by omega⟩
  simp only [Int.toNat_natCast] at hk ⊢
  refine (rput_c (· = g) _ n c l k W wx h.own.rd (by intro h; cases h) (by rw [h.len]; omega) h.len (by omega)).mono ?_
  rintro e w' ⟨hy, -⟩
  obtain ⟨g', n', c', rfl, h1, h2, h3, h4, h5, h6, h7⟩ := hy hk
  exact ⟨g', n', c', rfl, by rw [← h1, List.length_append, be_length, h.len]; omega, h.step h7 h2 h1 h3 h4 h5 h6⟩
theorem tputV {w0 wx : World} {r g n c : Nat} {t : TypeId} {C : Array Value} {l : List UInt8} (h : Bf w0 r t C wx g n c l) (S2 : Nat → Prop) (p2 : Option Addr) (n2 c2 : Nat) (v : List UInt8) (y : Int) (hy : 1 ≤ y ∧ y ≤ 4) (hv : v.length = n2) (hp2 : p2 = none → c2 = 0) (hR : Rd w0 S2 p2 v) (hk : n2 < 256 ^ y.toNat) (hn : n ≤ 100000) (hn2 : n2 ≤ 100000) :
    Calls Try.prog 27 #[.slice (some ⟨g, 0, none⟩) n c, .slice p2 n2 c2, .int .i64 y] wx (BufT w0 r t C (n + 4 + n2) (l ++ (be n2 y.toNat ++ v))) := by
  obtain ⟨W, rfl⟩ : ∃ W : Nat, y = W := ⟨y.toNat, by omega⟩
  simp only [Int.toNat_natCast] at hk ⊢
  refine (rvec_c (· = g) S2 _ p2 n c n2 c2 l v W wx h.own.rd (by intro h; cases h) h.len (hR.below h.bel) hp2 hv (by rw [h.len]; omega) (by omega)).mono ?_
  rintro e w' ⟨hy, -⟩
  obtain ⟨g', n', c', rfl, h1, h2, h3, h4, h5, h6, h7⟩ := hy hk
  rw [List.append_assoc] at h1 h6
  exact ⟨g', n', c', rfl, by rw [← h1, List.length_append, List.length_append, be_length, h.len, hv]; omega, h.step h7 h2 h1 h3 h4 h5 h6⟩

set_option maxHeartbeats 4000000 in
set_option maxRecDepth 100000 in
theorem tput_no (s : St) (C : Array Value) (v : Int) (w : World) (h : IsSt w C s) (hn : ¬ (okS s ∧ 1 ≤ v ∧ v ≤ 3)) : Calls Try.prog 11 #[.agg C, .int .i64 v] w (TPutNo w) := by
  have hsz : C.toList.length = 234 := by obtain ⟨_, _, _, hC, _⟩ := h; simpa using hC.size
  have hrg := blk_range (heap_alloc_new w (.cells C 26))
  have hB : Below w.heap.size w (w.alloc (.cells C 26)) := (Below.refl _ _).alloc (Nat.le_refl _) _
  have H := Lib.hid (And.intro (h.below hB) (And.intro hrg (And.intro hB hsz)))
  clear h hrg hB hsz
  have hE : ∀ w1, Below (w.alloc (.cells C 26)).heap.size (w.alloc (.cells C 26)) w1 → Below w.heap.size w w1 := fun w1 b1 => H.out.2.2.1.trans (b1.mono H.out.2.2.1.size)
  have HE := Lib.hid hE
  clear hE
  by_cases hk : okS s
  · have hd : decide (okS s) = true := decide_eq_true hk
    have hv : v < 1 ∨ 3 < v := by have : ¬ (1 ≤ v ∧ v ≤ 3) := fun h => hn ⟨hk, h⟩; omega
    clear hk hn
    rcases hv with hv | hv
    · go_enter Try.func11, Try.ntmps11
      go_wp2_with (first
        | (refine wpList_load_mid rfl 26 (.tmp 2) rfl w.heap.size 0 rfl C.toList _ H.out.2.1 Try.underlying26 rfl (by rw [H.out.2.2.2]; exact Try.infoT) ?_; rw [Array.toArray_toList])
        | (go_at_call 7; refine (rright_s C s _ H.out.1).mono ?_; rintro e w1 ⟨rfl, b1⟩))
      go_ret2
      exact ⟨rfl, HE.out _ b1⟩
    · have hv1 : ¬ v < 1 := by omega
      go_enter Try.func11, Try.ntmps11
      go_wp2_with (first
        | (refine wpList_load_mid rfl 26 (.tmp 2) rfl w.heap.size 0 rfl C.toList _ H.out.2.1 Try.underlying26 rfl (by rw [H.out.2.2.2]; exact Try.infoT) ?_; rw [Array.toArray_toList])
        | (go_at_call 7; refine (rright_s C s _ H.out.1).mono ?_; rintro e w1 ⟨rfl, b1⟩))
      go_ret2
      exact ⟨rfl, HE.out _ b1⟩
  · have hd : decide (okS s) = false := decide_eq_false hk
    clear hk hn
    go_enter Try.func11, Try.ntmps11
    go_wp2_with (first
      | (refine wpList_load_mid rfl 26 (.tmp 2) rfl w.heap.size 0 rfl C.toList _ H.out.2.1 Try.underlying26 rfl (by rw [H.out.2.2.2]; exact Try.infoT) ?_; rw [Array.toArray_toList])
      | (go_at_call 7; refine (rright_s C s _ H.out.1).mono ?_; rintro e w1 ⟨rfl, b1⟩))
    go_ret2
    exact ⟨rfl, HE.out _ b1⟩

/-- One round of it: so many sums are put. -/
def TRel (w0 : World) (r : Nat) (C : Array Value) (N : Nat) (l sm : List UInt8) (v6 v8 : Value) (wr : World) : Prop :=
  ∃ i g n c : Nat, v8 = .int .i64 (i : Int) ∧ v6 = .slice (some ⟨g, 0, none⟩) n c ∧ i ≤ 7 ∧ n ≤ N + 32 * i ∧ Bf w0 r 26 C wr g n c (l ++ sm.take (32 * i))

set_option maxHeartbeats 4000000 in
set_option maxRecDepth 100000 in
theorem tput_yes (s : St) (C : Array Value) (v : Nat) (w : World) (h : IsSt w C s) (hs : okS s) (hv : 1 ≤ v ∧ v ≤ 3) : Calls Try.prog 11 #[.agg C, .int .i64 (v : Int)] w (TPutYes w (snB s v)) := by
  obtain ⟨lg, pt, us, hC, ⟨p1, n1, c1, rfl, l1, R1, z1, y1, x1⟩, ⟨p2, n2, c2, rfl, l2, R2, z2, y2, x2⟩, ⟨p3, n3, c3, rfl, l3, R3, z3, y3, x3⟩⟩ := id h
  have hsz : C.toList.length = 234 := by simpa using hC.size
  have hrg := blk_range (heap_alloc_new w (.cells C 26))
  have hB : Below w.heap.size w (w.alloc (.cells C 26)) := (Below.refl _ _).alloc (Nat.le_refl _) _
  have hbk := heap_alloc_new w (.cells C 26)
  have HS := Lib.hid hs
  have hd : decide (okS s) = true := decide_eq_true hs
  have hv1 : ¬ (v : Int) < 1 := by omega
  have hv3 : ¬ (3 : Int) < (v : Int) := by omega
  obtain ⟨⟨a1, a2⟩, ⟨b1, b2⟩, ⟨k1, k2⟩, ⟨d1, d2⟩, ⟨f1, f2⟩, ⟨g1, g2⟩, m1, m2, m3⟩ := hs
  obtain ⟨ph, lgs, sm, a, b, c, d, sl, pts, uss, al⟩ := s
  simp only at *
  have i1 : IntKind.u8.wrap (v : Int) = (v : Int) := by rw [IntKind.wrap_u8]; omega
  have i2 : IntKind.u8.wrap ph = ph := by rw [IntKind.wrap_u8]; omega
  have i3 : IntKind.u8.wrap a = a := by rw [IntKind.wrap_u8]; omega
  have i4 : IntKind.u8.wrap b = b := by rw [IntKind.wrap_u8]; omega
  have hn1 : n1 ≤ 20000 := by omega
  have hn2 : n2 ≤ 4096 := by omega
  have hn3 : n3 ≤ 255 := by omega
  have HR := Lib.hid (And.intro (h.below hB) (And.intro hrg (And.intro hB hsz)))
  have HQ := Lib.hid (And.intro (And.intro l1 (And.intro R1 z1)) (And.intro (And.intro l2 (And.intro R2 z2)) (And.intro l3 (And.intro R3 z3))))
  have HC := Lib.hid hC
  have HK := Lib.hid hbk
  have HSM := Lib.hid HC.out.len
  clear h hrg hB hsz hbk hC l1 R1 z1 l2 R2 z2 l3 R3 z3 m1 m2 m3 y1 x1 y2 x2 y3 x3
  go_enter Try.func11, Try.ntmps11
  go_upto_region 4 with (first
      | (refine wpList_load_mid rfl 26 (.tmp 2) rfl w.heap.size 0 rfl C.toList _ HR.out.2.1 Try.underlying26 rfl (by rw [HR.out.2.2.2]; exact Try.infoT) ?_; rw [Array.toArray_toList])
      | (go_at_call 7; refine (rright_s C _ _ HR.out.1).mono ?_; rintro e w1 ⟨rfl, b1⟩; have z1 : w.heap.size < w1.heap.size := (by have := b1.size; simp at this; omega); obtain ⟨e0, e1, e2, e3, e4, e5, e6, e7, e8, e9⟩ := blk_cells ((b1.block _ (by simp)).trans HK.out) HC.out))
  obtain ⟨L0, hL0⟩ : ∃ L, L = be v 1 ++ be ph.toNat 1 := ⟨_, rfl⟩
  have hb0 : Bf w w.heap.size 26 C (w1.alloc (.cells #[.int .u8 (v : Int), .int .u8 ph] 5)) w1.heap.size 2 2 L0 := by
    have hB1 : Below w.heap.size w w1 := HR.out.2.2.1.trans (b1.mono HR.out.2.2.1.size)
    have e1 : ((UInt8.ofNat v).toNat : Int) = (v : Int) := by rw [UInt8.toNat_ofNat']; omega
    have e2 : ((UInt8.ofNat ph.toNat).toNat : Int) = ph := by rw [UInt8.toNat_ofNat']; omega
    have ho := Own.lit2 w1 (UInt8.ofNat v) (UInt8.ofNat ph.toNat)
    rw [e1, e2] at ho
    have hl : L0 = [UInt8.ofNat v, UInt8.ofNat ph.toNat] := by rw [hL0]; simp [be]
    rw [hl]
    exact ⟨(((Below.refl _ w1).alloc (Nat.le_refl _) _).block _ z1).trans ((b1.block _ (by simp)).trans HK.out), hB1.alloc hB1.size _, ho, rfl, Nat.le_refl _, hB1.size, by simp, by omega, by omega, by simp [maxLen]⟩
  have HL0 := Lib.hid hL0
  have HB0 := Lib.hid hb0
  clear hL0 hb0 e0 e1 e2 e3 e4 e5 e6 e7 e8 e9 z1 b1
  refine (tputV HB0.out _ _ _ _ _ _ (by omega) HQ.out.1.1 HQ.out.1.2.2 HQ.out.1.2.1 (by simp; omega) (by omega) (by omega)).mono ?_
  rintro e w2 ⟨g, n, c5, rfl, hle, hB⟩
  obtain ⟨L1, hL1⟩ : ∃ L, L = L0 ++ (be n1 (2 : Int).toNat ++ lgs) := ⟨_, rfl⟩
  rw [← hL1] at hB
  have HL1 := Lib.hid hL1
  have hle2 : n ≤ 20006 := by omega
  have HB := Lib.hid hB
  clear hB hL1 hle
  go_upto_block 0 with (fail)
  go_cut [6] (fun v6 wx => ∃ g n c : Nat, v6 = .slice (some ⟨g, 0, none⟩) n c ∧ n ≤ 20230 ∧ Bf w w.heap.size 26 C wx g n c (L1 ++ sm))
  case first =>
    go_wp2_with fail
    go_loopw [6, 8] (fun v6 v8 wr => TRel w w.heap.size C 20006 L1 sm v6 v8 wr) (fun _ v8 _ => 7 - (intOf v8).toNat)
    case atStart => exact ⟨0, g, n, c5, rfl, rfl, by omega, by omega, by simpa using HB.out⟩
    case round =>
      obtain ⟨i, g, n, c, rfl, rfl, hi, hn, hB⟩ := hrel
      have HB := Lib.hid hB
      by_cases hlt : i < 7
      · have hrd := StB.sum ⟨C, hB.blk, HC.out⟩ i hlt
        have hrl : ((sm.drop (32 * i)).take 32).length = 32 := by rw [List.length_take, List.length_drop, HSM.out]; omega
        rw [Nat.mul_comm 32 i] at hrd
        have HRD := Lib.hid (And.intro hrd hrl)
        clear hB hrd hrl
        go_wp2_with (at_builtin; refine wpList_append_bytes _ rfl (.tmp 37) (.tmp 41) 22 rfl Try.underlying22 Try.info5 g _ (L1 ++ sm.take (32 * i)) rfl HB.out.own (· = w.heap.size) _ 32 32 ((sm.drop (32 * i)).take 32) rfl HRD.out.2 (by intro h; cases h) (by rw [Nat.mul_comm 32 i]; exact HRD.out.1) (by rw [HRD.out.2, HB.out.len]; omega) ?_; intro g' vx w4 ho' hg' hO hnil)
        obtain ⟨n', c', rfl, hle', hB'⟩ := HB.out.app hnil ho' hg' hO
        rw [HRD.out.2] at hle'
        have e : L1 ++ sm.take (32 * i) ++ (sm.drop (32 * i)).take 32 = L1 ++ sm.take (32 * (i + 1)) := by
          rw [List.append_assoc, show 32 * (i + 1) = 32 * i + 32 by omega, List.take_add]
        rw [e] at hB'
        have HB2 := Lib.hid hB'
        clear hB' hnil ho' hg' hO e
        go_wp2
        exact ⟨⟨i + 1, g', n', c', by simp, rfl, by omega, by omega, HB2.out⟩, by simp [intOf]; omega⟩
      · have hi7 : i = 7 := by omega
        have e : L1 ++ sm.take (32 * i) = L1 ++ sm := by rw [hi7, List.take_of_length_le (by rw [HSM.out]; omega)]
        have HE := Lib.hid e
        have hn' : n ≤ 20230 := by omega
        have hi8 : ¬ (i : Int) < 7 := by omega
        clear hB hi7 e
        go_wp2
        go_meet
        exact ⟨g, n, c, rfl, hn', by rw [← HE.out]; exact HB.out⟩
  case rest =>
    obtain ⟨g, n, cq, rfl, hn, hB⟩ := hcut
    obtain ⟨e0, e1, e2, e3, e4, e5, e6, e7, e8, e9⟩ := blk_cells hB.blk HC.out
    have x0 : ((UInt8.ofNat a.toNat).toNat : Int) = a := by rw [UInt8.toNat_ofNat']; omega
    have x1 : ((UInt8.ofNat b.toNat).toNat : Int) = b := by rw [UInt8.toNat_ofNat']; omega
    have x2 : ((UInt8.ofNat (c.toNat / 256)).toNat : Int) = c / 256 := by rw [UInt8.toNat_ofNat']; omega
    have x3 : ((UInt8.ofNat c.toNat).toNat : Int) = c % 256 := by rw [UInt8.toNat_ofNat']; omega
    have x4 : ((UInt8.ofNat (d.toNat / 256)).toNat : Int) = d / 256 := by rw [UInt8.toNat_ofNat']; omega
    have x5 : ((UInt8.ofNat d.toNat).toNat : Int) = d % 256 := by rw [UInt8.toNat_ofNat']; omega
    obtain ⟨NB, hNB⟩ : ∃ NB : List UInt8, NB = [UInt8.ofNat a.toNat, UInt8.ofNat b.toNat, UInt8.ofNat (c.toNat / 256), UInt8.ofNat c.toNat, UInt8.ofNat (d.toNat / 256), UInt8.ofNat d.toNat, if sl then 1 else 0] := ⟨_, rfl⟩
    have hlit := Rd.lit wc NB
    rw [hNB] at hlit
    simp only [List.map_cons, List.map_nil, B8, x0, x1, x2, x3, x4, x5] at hlit
    rw [← hNB] at hlit
    have hb0 := hB.below ((Below.refl _ wc).alloc (Nat.le_refl _) (.cells #[.int .u8 a, .int .u8 b, .int .u8 (c / 256), .int .u8 (c % 256), .int .u8 (d / 256), .int .u8 (d % 256), .int .u8 ((if sl then 1 else 0 : UInt8).toNat : Int)] 5))
    have hnl : NB.length = 7 := by rw [hNB]; rfl
    obtain ⟨L3, hL3⟩ : ∃ L, L = (L1 ++ sm) ++ NB := ⟨_, rfl⟩
    have hF : snB { ph := ph, lg := lgs, sm := sm, a := a, b := b, c := c, d := d, sl := sl, pt := pts, us := uss, al := al } v = L3 ++ (be n2 2 ++ pts) ++ ((if 2 ≤ v then be n3 1 ++ uss else []) ++ (if 3 ≤ v then be (al + 1).toNat 2 else [])) := by
      rw [hL3, hNB, HL1.out, HL0.out]
      unfold snB bdB usB alB
      simp only [HQ.out.1.1, HQ.out.2.1.1, HQ.out.2.2.1]
      cases sl <;> simp [be]
    have HF := Lib.hid hF
    have HL3 := Lib.hid hL3
    have HB0 := Lib.hid (And.intro hb0 (And.intro hlit hnl))
    have hrl : w.heap.size < wc.heap.size := (Array.getElem?_eq_some_iff.1 hB.blk).1
    clear hB hF hL3 hb0 hlit hnl hNB x0 x1 x2 x3 x4 x5
    cases sl
    all_goals
      simp only [if_true, if_false, Bool.false_eq_true, UInt8.toNat_zero, UInt8.toNat_one, Int.natCast_zero, Int.natCast_one] at HB0
      go_upto_region 12 with (at_builtin; refine wpList_append_bytes _ rfl (.tmp 45) (.tmp 67) 22 rfl Try.underlying22 Try.info5 g _ (L1 ++ sm) rfl HB0.out.1.own (· = wc.heap.size) _ 7 7 NB rfl HB0.out.2.2 (by intro h; cases h) HB0.out.2.1 (by rw [HB0.out.1.len, HB0.out.2.2]; omega) ?_; intro g4 vx w4 ho' hg' hO hnil; obtain ⟨n4, c4, rfl, hle4, hB4⟩ := HB0.out.1.app hnil ho' hg' hO)
      rw [HB0.out.2.2] at hle4
      rw [← HL3.out] at hB4
      have HB4 := Lib.hid hB4
      obtain ⟨-, -, -, -, -, -, -, e7', -, -⟩ := blk_cells hB4.blk HC.out
      clear hnil ho' hg' hO hB4 e0 e1 e2 e3 e4 e5 e6 e7 e8 e9
      go_wp2_with (first
        | (go_at_call 28; have hq := hB8; refine (tputU hB8 _ _ (by omega) (by omega) (by simp; omega) (by omega)).mono ?_; rintro e w9 ⟨g9, n9, c9, rfl, hle9, hB9⟩)
        | (go_at_call 27; have hq := hB7; refine (tputV hB7 _ _ _ _ _ _ (by omega) HQ.out.2.2.1 HQ.out.2.2.2.2 HQ.out.2.2.2.1 (by simp; omega) (by omega) (by omega)).mono ?_; rintro e w8 ⟨g8, n8, c8, rfl, hle8, hB8⟩; obtain ⟨-, -, -, -, -, -, -, -, -, e9'⟩ := blk_cells hB8.blk HC.out)
        | (go_at_call 27; refine (tputV HB4.out _ _ _ _ _ _ (by omega) HQ.out.2.1.1 HQ.out.2.1.2.2 HQ.out.2.1.2.1 (by simp; omega) (by omega) (by omega)).mono ?_; rintro e w7 ⟨g7, n7, c7, rfl, hle7, hB7⟩; obtain ⟨-, -, -, -, -, -, -, -, e8, e9⟩ := blk_cells hB7.blk HC.out))
      all_goals go_ret2
      · exact hB9.tone (by rw [HF.out, if_pos (by omega), if_pos (by omega), ← List.append_assoc]; rfl)
      · exact hB8.tone (by rw [HF.out, if_pos (by omega), if_neg (by omega), List.append_nil]; rfl)
      · exact hB7.tone (by rw [HF.out, if_neg (by omega), if_neg (by omega)]; simp)
end Go.Proofs.Ytfilngbedlkhjaa
