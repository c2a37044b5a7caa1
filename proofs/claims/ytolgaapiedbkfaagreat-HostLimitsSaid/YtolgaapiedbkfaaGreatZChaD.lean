/-
  The contracts of slices.Clone (bytes) and chacha.Stream. Conditions: those of the theorems.
-/
import Derived.Test.YtolgaapiedbkfaaGreatZChaC
import Derived.Test.YtolgaapiedbkfaaGreatZInL
namespace Go.Proofs.YtolgaapiedbkfaaGreat
open Go.RowKit Go.Kx Go.Shelf
set_option linter.unusedVariables false
set_option linter.unusedSimpArgs false
set_option maxRecDepth 100000
attribute [local go_sem] Oper.semAt_some
attribute [local go_sem ↓] U_add U_store exec_stU
attribute [local go_sem] st1_U st1_i
theorem clone8_c (S : Nat → Prop) (a : Addr) (n c : Nat) (b : List UInt8) (w : World) (hR : Rd w S (some a) b) (hn : b.length = n) (hl : n ≤ 140737488355328) :
    Calls Tryz.prog 109 #[.slice (some a) n c] w (NewOB w b) := by
  have q := qbytes
  go_enter Tryz.func109, Tryz.ntmps109
  have hob : OB (w.alloc (.cells #[] 5)) (some ⟨w.heap.size, 0, none⟩) 0 0 [] := (OB.of_own (Own.new w)).1
  have hbb : Below w.heap.size w (w.alloc (.cells #[] 5)) := (Below.refl _ _).alloc (Nat.le_refl _) _
  go_wp2_with (at_builtin; refine wpList_app8 rfl _ _ rfl hob rfl S (some a) n c b rfl hn (hR.below hbb) (fun h => by cases h) (by simp; omega) ?_; rw [List.nil_append]; intro p1 n1 c1 w1 h1 h2 h3)
  go_ret
  refine ⟨p1, n1, c1, rfl, h1, fun k hk => ?_, below_only hbb (by rw [World.size_alloc]; omega) h3 (fun k hk e => by cases e; exact absurd hk (Nat.lt_irrefl _))⟩
  rcases h2 k hk with h | h
  · cases h; exact Nat.le_refl _
  · rw [World.size_alloc] at h; omega

theorem keeps_of_only {r : Nat → Prop} {W W' : World} (ho : Only r W W') (hr : ∀ k o, r k → W.heap[k]? = some o → o.isCells = true) : KeepsOthers W W' := ⟨ho.size, fun k o hk hc => by
  have hlt := (Array.getElem?_eq_some_iff.1 hk).1
  by_cases h : r k
  · rw [hr k o h hk] at hc; cases hc
  · exact (ho.block k hlt h).trans hk⟩
/-- What the variables of Stream hold when some parts have come: t: what of the bytes and the count. -/
structure StI (w : World) (key nonce : List UInt8) (g n c : Nat) (Bs : Nat) (t : List UInt8 × UInt32) (wx : World) : Prop where
  k : ArrB wx w.heap.size 29 key
  m : Boxed wx (w.heap.size + 1) 173 (U t.2)
  nn : ArrB wx (w.heap.size + 2) 95 nonce
  o : OB wx (some ⟨g, 0, none⟩) n c t.1
  s : Boxed wx Bs 38 (.slice (some ⟨g, 0, none⟩) n c)
  z : Boxed wx (Bs + 1) 3 (.int .i64 64)
  b : Below w.heap.size w wx
theorem boxed_only {w w' : World} {r : Nat → Prop} {B t : Nat} {v : Value} (h : Boxed w B t v) (ho : Only r w w') (hd : ¬ r B) : Boxed w' B t v := (ho.block B h.lt hd).trans h
theorem StI.only {w wx wy : World} {key nonce : List UInt8} {g n c Bs : Nat} {t : List UInt8 × UInt32} {r : Nat → Prop} (h : StI w key nonce g n c Bs t wx) (ho : Only r wx wy) (hr : ∀ k, r k → Bs + 2 ≤ k) (hg : g < Bs) (hB : w.heap.size + 3 ≤ Bs) : StI w key nonce g n c Bs t wy :=
  ⟨h.k.only ho (fun h => by have := hr _ h; omega), boxed_only h.m ho (fun h => by have := hr _ h; omega), h.nn.only ho (fun h => by have := hr _ h; omega), h.o.only ho (fun k hk h => by have e : g = k := (by cases hk; rfl); have := hr _ h; omega), boxed_only h.s ho (fun h => by have := hr _ h; omega), boxed_only h.z ho (fun h => by have := hr _ h; omega), below_only h.b h.b.size ho (fun k hk h => by have := hr _ h; omega)⟩
theorem StI.own {w : World} {key nonce : List UInt8} {g n c Bs B : Nat} {α : Type} {f : α → List UInt8 × UInt32} (hB : Bs + 2 ≤ B) (hg : g < Bs) (h3 : w.heap.size + 3 ≤ Bs) : OwnFrom B (fun s W => StI w key nonce g n c Bs (f s) W) := fun s W W' row h hgr hrow =>
  h.only (Only.of_grown hgr) (fun k hk => by have := (hrow k hk.symm).1; omega) hg h3
theorem StI.below {w wx wy : World} {key nonce : List UInt8} {g n c Bs : Nat} {t : List UInt8 × UInt32} (h : StI w key nonce g n c Bs t wx) (hb : Below wx.heap.size wx wy) : StI w key nonce g n c Bs t wy :=
  ⟨h.k.below hb, boxed_only h.m (Only.of_below (r := fun _ => False) hb) (fun h => h), h.nn.below hb, h.o.below hb, boxed_only h.s (Only.of_below (r := fun _ => False) hb) (fun h => h), boxed_only h.z (Only.of_below (r := fun _ => False) hb) (fun h => h), h.b.trans (hb.mono h.b.size)⟩
def StP (w : World) (key nonce : List UInt8) (g n c Bs : Nat) (t : List UInt8 × UInt32) (pre : List (PartOf 64 n)) (W : World) : Prop := StI w key nonce g n c Bs (strK key nonce t (pre.map Subtype.val)) W
theorem ofInt8 (x : UInt8) : (BitVec.ofInt 8 (x.toNat : Int) : BitVec 8) = x.toBitVec := by
  apply BitVec.eq_of_toNat_eq
  have h := x.toNat_lt
  simp [BitVec.toNat_ofInt]
theorem bits_xor8 (x y : UInt8) : bits .xor .u8 (x.toNat : Int) (y.toNat : Int) = ((x ^^^ y).toNat : Int) := by
  show (IntKind.u8.wrap (((BitVec.ofInt 8 (x.toNat : Int) ^^^ BitVec.ofInt 8 (y.toNat : Int)) : BitVec 8).toNat : Int)) = _
  have h := (x.toBitVec ^^^ y.toBitVec).isLt
  have e : IntKind.u8.wrap (((x.toBitVec ^^^ y.toBitVec).toNat : Nat) : Int) = ((x.toBitVec ^^^ y.toBitVec).toNat : Int) := by
    rw [IntKind.wrap_u8]
    omega
  rw [ofInt8, ofInt8, e]
  rfl
theorem cells_of_cell {W : World} {a : Addr} {v : Value} (h : W.cell? a = some v) {o : Obj} (ho : W.heap[a.block]? = some o) : o.isCells = true := by
  unfold World.cell? at h
  rw [ho] at h
  cases o <;> first | rfl | cases h
set_option maxHeartbeats 8000000 in
theorem stream_in (key : List UInt8) (count : UInt32) (nonce : List UInt8) (S : Nat → Prop) (ad : Addr) (len cap : Nat) (b : List UInt8) (w : World) (hk : key.length = 32) (hn : nonce.length = 12)
    (hR : Rd w S (some ad) b) (hl : b.length = len) (h0 : 0 < len) (hlb : len ≤ 1000000) :
    CallsIn Fence.wide 9 Tryz.prog 106 #[.agg (key.map B8).toArray, U count, .agg (nonce.map B8).toArray, .slice (some ad) len cap] w (NewOB w (strF key count nonce b)) := by
  have hkz : ((key.map B8).toArray).size = 32 := by simp [hk]
  have hnz : ((nonce.map B8).toArray).size = 12 := by simp [hn]
  refine callsIn_of_wp_marks Tryz.func106 rfl trivial ?_ rfl
  simp only [Tryz.ntmps106, List.size_toArray, List.length_cons, List.length_nil, Nat.reduceAdd, Nat.reduceSub, Array.replicate_succ, Array.replicate_zero, List.push_toArray, List.append_toArray, List.nil_append, List.cons_append]
  have hK := ArrB.new w 29 key
  have hM := Boxed.new (w.alloc (.cells (key.map B8).toArray 29)) 173 (U count)
  have hN := ArrB.new ((w.alloc (.cells (key.map B8).toArray 29)).alloc (.cells #[U count] 173)) 95 nonce
  simp only [World.size_alloc] at hM hN
  have b1 : ∀ (w : World) o, Below w.heap.size w (w.alloc o) := fun w o => (Below.refl _ _).alloc (Nat.le_refl _) _
  have hB : Below w.heap.size w (((w.alloc (.cells (key.map B8).toArray 29)).alloc (.cells #[U count] 173)).alloc (.cells (nonce.map B8).toArray 95)) := (((Below.refl _ w).alloc (Nat.le_refl _) _).alloc (by simp) _).alloc (by simp; omega) _
  have hW : ArrB (((w.alloc (.cells (key.map B8).toArray 29)).alloc (.cells #[U count] 173)).alloc (.cells (nonce.map B8).toArray 95)) w.heap.size 29 key ∧ Boxed (((w.alloc (.cells (key.map B8).toArray 29)).alloc (.cells #[U count] 173)).alloc (.cells (nonce.map B8).toArray 95)) (w.heap.size + 1) 173 (U count) := ⟨(hK.below (b1 _ _)).below (b1 _ _), hM.alloc _⟩
  have hsz : (((w.alloc (.cells (key.map B8).toArray 29)).alloc (.cells #[U count] 173)).alloc (.cells (nonce.map B8).toArray 95)).heap.size = w.heap.size + 3 := by simp
  have H0 := Lib.hid (And.intro hW (And.intro hN (And.intro hB (Nat.le_of_eq hsz.symm))))
  clear hK hM hN hW hB hsz b1
  have hlh := Lib.hid hl
  clear hl
  gi_wp2_with (first
    | (refine ⟨trivial, ?_⟩; gi_at_call 109; refine (callsIn_wide.2 (clone8_c S ad len cap b _ (hR.below H0.out.2.2.1) hlh.out (by omega))).mono ?_; rintro e w1 ⟨p1, n1, c1, rfl, hO, hx, hb⟩; obtain rfl : n1 = len := (by rw [← hO.len]; exact hlh.out); obtain ⟨g, rfl, hog, hgl⟩ := hO.pos h0; have hgw := hx g hog; have H1 := Lib.hid (And.intro hO (And.intro hgw hb)); clear hO hx hgw hb hog)
    | (refine ⟨trivial, ?_⟩; gi_at_call 128; refine (chunk_in Fence.wide 8 trivial rfl _ _ _ 64 (by decide) _).mono ?_; rintro e w' ⟨rfl, rfl⟩))
  have hI1 : StI w key nonce g n1 c1 w1.heap.size (b, count) ((w1.alloc (.cells #[.slice (some ⟨g, 0, none⟩) n1 c1] 38)).alloc (.cells #[.int .i64 64] 3)) := by
    have bz := Boxed.new (w1.alloc (.cells #[.slice (some ⟨g, 0, none⟩) n1 c1] 38)) 3 (.int .i64 64)
    rw [World.size_alloc] at bz
    have b2 : Below w1.heap.size w1 ((w1.alloc (.cells #[.slice (some ⟨g, 0, none⟩) n1 c1] 38)).alloc (.cells #[.int .i64 64] 3)) := ((Below.refl _ _).alloc (Nat.le_refl _) _).alloc (by simp) _
    have hb1 := H1.out.2.2
    exact ⟨(H0.out.1.1.below hb1).below b2, boxed_only (boxed_only H0.out.1.2 (Only.of_below (r := fun _ => False) hb1) (fun h => h)) (Only.of_below (r := fun _ => False) b2) (fun h => h), (H0.out.2.1.below hb1).below b2, H1.out.1.below b2, (Boxed.new w1 _ _).alloc _, bz,
      (H0.out.2.2.1.trans (hb1.mono H0.out.2.2.1.size)).trans (b2.mono (Nat.le_trans H0.out.2.2.1.size hb1.size))⟩
  have hBs : w.heap.size + 3 ≤ w1.heap.size := Nat.le_trans H0.out.2.2.2 H1.out.2.2.size
  have hgl2 := H1.out.2.1
  have h3g : w.heap.size + 3 ≤ g := Nat.le_trans H0.out.2.2.2 hgl2
  have hsz1 : w1.heap.size + 2 ≤ ((w1.alloc (.cells #[.slice (some ⟨g, 0, none⟩) n1 c1] 38)).alloc (.cells #[.int .i64 64] 3)).heap.size := by simp
  have hc1 : n1 ≤ c1 ∧ c1 ≤ maxLen := ⟨H1.out.1.form.1, H1.out.1.form.2.1⟩
  clear H0 H1 hgl2
  generalize ((w1.alloc (.cells #[.slice (some ⟨g, 0, none⟩) n1 c1] 38)).alloc (.cells #[.int .i64 64] 3)) = W0 at *
  generalize w1.heap.size = Bs at *
  refine wpIn_rangeFunc_ownG (F := Fence.wide) rfl (by decide) (gf := 155) (lb := #[rp Bs, rp (Bs + 1)]) rfl trivial (enters_of Tryz.func155 (by kernel_rfl) rfl)
    (chunk_stops Fence.wide 8 trivial rfl (by decide) Bs (Bs + 1) g 0 n1 c1 64 (by decide) (by decide) hc1.1 (by omega) W0 hI1.s hI1.z) KeepC.t (fun W l o o' _ h1 h2 _ => KeepC.b W l o o' h1 h2) (Below.refl _ _) (fun _ => rfl)
    (StP w key nonce g n1 c1 Bs (b, count)) (fun _ _ _ => False)
    (StI.own (f := fun pre : List (PartOf 64 n1) => strK key nonce (b, count) (pre.map Subtype.val)) hsz1 hgl hBs)
    (fun _ _ _ _ _ hs _ _ => hs) hI1
    (fun x => { tmps := #[.agg (key.map B8).toArray, U count, .agg (nonce.map B8).toArray, .slice (some ad) n1 cap, .pointer (some ⟨w.heap.size, 0, none⟩), .pointer (some ⟨w.heap.size + 1, 0, none⟩), .pointer (some ⟨w.heap.size + 1 + 1, 0, none⟩), undef, .slice none 0 0, .slice (some ⟨g, 0, none⟩) n1 c1, .slice (some ⟨g, 0 + 64 * x.1, none⟩) (min 64 (n1 - 64 * x.1)) (min 64 (n1 - 64 * x.1)), undef, undef, .slice (some ad) n1 cap, .slice (some ⟨g, 0, none⟩) n1 c1, .slice (some ⟨g, 0, none⟩) n1 c1, .func (.func 155) #[] #[rp Bs, rp (Bs + 1)], .slice (some ⟨g, 0 + 64 * x.1, none⟩) (min 64 (n1 - 64 * x.1)) (min 64 (n1 - 64 * x.1)), undef, undef, undef, undef, undef, undef, undef, undef, undef, undef, undef, undef, undef, undef, undef, undef, undef, undef, undef, undef, undef, undef], defers := [] }) ?assign ?body ?done ?stop
  case assign =>
    intro l x W K hK
    unfold encPart
    have hz : 0 + 64 * x.1 = 64 * x.1 := Nat.zero_add _
    rw [hz] at hK
    gi_wp2
    exact hK
  case body =>
    rintro l pre x W hSt hlt
    have hx := x.2
    have hx4 : 64 * x.1 < n1 := by unfold partsN at hx; omega
    have hSt' : StI w key nonce g n1 c1 Bs (strK key nonce (b, count) (pre.map Subtype.val)) W := hSt
    have hnext : strK key nonce (b, count) ((pre ++ [x]).map Subtype.val) = (xorK (strK key nonce (b, count) (pre.map Subtype.val)).1 (64 * x.1) (blockF key (strK key nonce (b, count) (pre.map Subtype.val)).2 nonce) (min 64 ((strK key nonce (b, count) (pre.map Subtype.val)).1.length - 64 * x.1)), (strK key nonce (b, count) (pre.map Subtype.val)).2 + 1) := by
      rw [List.map_append]
      exact strK_snoc key nonce (b, count) (pre.map Subtype.val) x.1
    have hCl : (strK key nonce (b, count) (pre.map Subtype.val)).1.length = n1 := by rw [strK_len]; exact hlh.out
    obtain ⟨T, hT⟩ : ∃ T, T = strK key nonce (b, count) (pre.map Subtype.val) := ⟨_, rfl⟩
    rw [← hT] at hSt' hnext hCl
    obtain ⟨C, cnt⟩ := T
    dsimp only at hnext hCl
    obtain ⟨O, hO⟩ : ∃ O, O = 64 * x.1 := ⟨_, rfl⟩
    obtain ⟨M, hM⟩ : ∃ M, M = min 64 (n1 - O) := ⟨_, rfl⟩
    rw [hCl, ← hO, ← hM] at hnext
    rw [Nat.zero_add, ← hO, ← hM]
    have hM1 : 0 < M ∧ M ≤ 64 ∧ O + M ≤ n1 := by rw [hM, hO]; omega
    have HT := Lib.hid (And.intro hnext (And.intro hCl hM1))
    have HS := Lib.hid hSt'
    have hcc := hSt'.m.cell
    clear hnext hCl hM1 hM hO hx4 hx hT hSt hSt' hI1
    gi_wp2_with (first
      | (refine ld_arrBI rfl 29 (.tmp 4) rfl w.heap.size rfl 29 key HS.out.k _ _ Tryz.underlying29 (by rw [hk]; exact Tryz.infoB32) ?_)
      | (refine ld_arrBI rfl 95 (.tmp 6) rfl (w.heap.size + 2) rfl 95 nonce HS.out.nn _ _ Tryz.underlying95 (by rw [hn]; kernel_rfl) ?_)
      | (refine ⟨trivial, ?_⟩; gi_at_call 144; refine (CallsIn.inRound l (callsIn_wide.2 (block_c key cnt nonce W hk hn))).mono ?_; rintro e w2 ⟨rfl, hb2⟩)
      | (refine st_arrBI rfl 141 (.tmp 11) (.tmp 21) rfl w2.heap.size (blockF key cnt nonce) rfl rfl 141 (List.replicate 64 0) (ArrB.new w2 141 (List.replicate 64 0)) (by rw [blockF_len]; exact Tryz.infoB64) (by rw [blockF_len]; rfl) ?_; intro w3 hA3 hO3))
    have hb3 : Below w2.heap.size w2 w3 := below_only ((Below.refl _ _).alloc (Nat.le_refl _) _) (by rw [World.size_alloc]; omega) hO3 (fun k hk e => by omega)
    have hSt3 := (HS.out.below hb2).below hb3
    have hKb : ∃ kb, kb = blockF key cnt nonce := ⟨_, rfl⟩
    obtain ⟨kb, hkb⟩ := hKb
    have hkl : kb.length = 64 := by rw [hkb]; exact blockF_len _ _ _
    rw [← hkb] at hA3 ⊢
    have hw2 : Bs + 2 ≤ w2.heap.size := by have := hSt3.z.lt; have := HS.out.z.lt; have := hb2.size; omega
    have H3 := Lib.hid (And.intro hSt3 (And.intro hA3 (And.intro hkl hw2)))
    have HK := Lib.hid (And.intro hkb (And.intro hb2 hb3))
    clear hSt3 hA3 hO3 hkb hkl hb2 hb3 hcc
    gi_loopw [24] (fun v wr => ∃ i : Nat, v = .int .i64 (i : Int) ∧ i ≤ M ∧ OB wr (some ⟨g, 0, none⟩) n1 c1 (xorK C O kb i) ∧ Only (· = g) w3 wr) (fun v _ => (M - (intOf v).toNat))
    case atStart => exact ⟨0, rfl, by omega, H3.out.1.o, Only.refl _ _⟩
    case round =>
      obtain ⟨i, rfl, hi, hOB, hOn⟩ := hrel
      have HR := Lib.hid (And.intro hOB hOn)
      by_cases hiM : i < M
      · have hm := HT.out.2.2
        have hlen : (xorK C O kb i).length = n1 := by rw [xorK_len]; exact HT.out.2.1
        have c1' := cell_ob (k := O + i) hOB (by omega)
        have f1' := frozen_ob (k := O + i) hOB
        have c2' := (H3.out.2.1.only hOn (by have := H3.out.2.2.2; omega)).c i (by rw [H3.out.2.2.1]; omega)
        obtain ⟨X, hX⟩ : ∃ X, X = (xorK C O kb i)[O + i]'(by omega) := ⟨_, rfl⟩
        obtain ⟨Y, hY⟩ : ∃ Y, Y = kb[i]'(by rw [H3.out.2.2.1]; omega) := ⟨_, rfl⟩
        rw [← hX] at c1'
        rw [← hY] at c2'
        have hst : xorK C O kb (i + 1) = (xorK C O kb i).set (O + i) (X ^^^ Y) := by
          rw [xorK, List.getD_eq_getElem?_getD, List.getElem?_eq_getElem (by omega : O + i < (xorK C O kb i).length), List.getD_eq_getElem?_getD, List.getElem?_eq_getElem (by rw [H3.out.2.2.1]; omega : i < kb.length), hX, hY]
          rfl
        have HST := Lib.hid hst
        have c1x : wr.cell? ⟨g, O + i, none⟩ = some (.int .u8 (X.toNat : Int)) := c1'
        have c2x : wr.cell? ⟨w2.heap.size, i, none⟩ = some (.int .u8 (Y.toNat : Int)) := c2'
        have k1 : (i : Int) < (M : Int) := by omega
        have k2 : (0 : Int) ≤ (i : Int) := by omega
        have k3 : (i : Int) < 64 := by omega
        clear hst hX hY c1' c2' hlen hm hOB hOn
        have hmo : Tryz.prog.follows .mixedOrders = true := by kernel_rfl
        have hbx := bits_xor8 X Y
        have hO6 : OB (wr.setCell ⟨g, O + i, none⟩ (.int .u8 ((X ^^^ Y).toNat : Int))).drew (some ⟨g, 0, none⟩) n1 c1 ((xorK C O kb i).set (O + i) (X ^^^ Y)) := by
          have h : OB (wr.setCell ⟨g, O + i, none⟩ (.int .u8 ((X ^^^ Y).toNat : Int))) (some ⟨g, 0, none⟩) n1 c1 ((xorK C O kb i).set (O + i) (X ^^^ Y)) := HR.out.1.set (k := O + i) (x := X ^^^ Y)
          exact ⟨h.own, h.len⟩
        have hn6 : Only (· = g) w3 (wr.setCell ⟨g, O + i, none⟩ (.int .u8 ((X ^^^ Y).toNat : Int))).drew := (HR.out.2.then ((Only.refl (fun k => k = g) wr).setCell ⟨g, O + i, none⟩ _ (.inl rfl))).drew
        have H6 := Lib.hid (And.intro hO6 hn6)
        clear hO6 hn6
        gi_wp2
        gi_region_with_o (fail)
        all_goals gi_wp2
        all_goals exact ⟨⟨i + 1, by simp, by omega, by rw [HST.out]; exact H6.out.1, H6.out.2⟩, by simp [intOf]; omega⟩
      · obtain rfl : i = M := by omega
        have k1 : ¬ (i : Int) < (i : Int) := by omega
        have hgne : ∀ k, k < g ∨ g < k → ¬ (k = g) := fun k h e => by omega
        have h3 := H3.out.1
        have hw2 := H3.out.2.2.2
        have m4 := boxed_only h3.m hOn (hgne _ (by omega))
        have hc4 := m4.cell
        have hf4 := m4.frozen
        have ho5 : Only (· = w.heap.size + 1) wr (wr.setCell ⟨w.heap.size + 1, 0, none⟩ (U (cnt + 1))) := (Only.refl (fun k => k = w.heap.size + 1) wr).setCell _ _ (.inl rfl)
        have hS5 : StI w key nonce g n1 c1 Bs (xorK C O kb i, cnt + 1) (wr.setCell ⟨w.heap.size + 1, 0, none⟩ (U (cnt + 1))) :=
          ⟨(h3.k.only hOn (hgne _ (by omega))).only ho5 (by omega), m4.set _, (h3.nn.only hOn (hgne _ (by omega))).only ho5 (by omega), hOB.only ho5 (fun k hk e => by have e2 : g = k := (by cases hk; rfl); omega), boxed_only (boxed_only h3.s hOn (hgne _ (by omega))) ho5 (by omega), boxed_only (boxed_only h3.z hOn (hgne _ (by omega))) ho5 (by omega),
            below_only (below_only h3.b h3.b.size hOn (fun k hk e => by omega)) (Nat.le_trans h3.b.size hOn.size) ho5 (fun k hk e => by omega)⟩
        have hOW : Only (fun k => k = g ∨ k = w.heap.size + 1) W (wr.setCell ⟨w.heap.size + 1, 0, none⟩ (U (cnt + 1))) := by
          have a1 : Only (fun k => k = g ∨ k = w.heap.size + 1) W w2 := Only.of_below HK.out.2.1
          have a2 : Only (fun k => k = g ∨ k = w.heap.size + 1) w2 w3 := Only.of_below HK.out.2.2
          exact ((a1.then a2).then (hOn.mono (fun k _ e => .inl e))).then (ho5.mono (fun k _ e => .inr e))
        have hKO : KeepsOthers W (wr.setCell ⟨w.heap.size + 1, 0, none⟩ (U (cnt + 1))) := keeps_of_only hOW (by
          rintro k ob (rfl | rfl) hk
          · have hlen : 0 < C.length := by rw [HT.out.2.1]; exact h0
            exact cells_of_cell (cell_ob (k := 0) HS.out.o hlen) hk
          · exact cells_of_cell HS.out.m.cell hk)
        have H5 := Lib.hid (And.intro hS5 hKO)
        have hadd : ∀ wx, (binOp .add 173 (U cnt) (.int .u32 1)).run Tryz.prog wx = .ok (U (cnt + 1)) wx := fun wx => U_add (P := Tryz.prog) (w := wx) (t := 173) (x := cnt) (y := 1)
        clear h3 m4 ho5 hS5 hOW hKO hOB hOn hgne
        gi_wp2
        refine ⟨H5.out.2.from _, ?_, ?_⟩
        · rintro k ob (rfl | rfl) h1 _
          · rw [show W.heap[_]? = _ from HS.out.s] at h1
            cases h1
            exact H5.out.1.s
          · rw [show W.heap[_]? = _ from HS.out.z] at h1
            cases h1
            exact H5.out.1.z
        · show StI w key nonce g n1 c1 Bs _ _
          rw [HT.out.1, ← HK.out.1]
          exact H5.out.1
  case done =>
    rintro D ys W hD hys hSt hK
    gi_wp2
    refine ⟨by simp, .inl ⟨_, _, rfl, run_takeDeferred hK, ?_⟩⟩
    have hO : OB (W.putObj D (.deferred none)) (some ⟨g, 0, none⟩) n1 c1 (strK key nonce (b, count) (ys.map Subtype.val)).1 := ⟨ownsRow_putObj hSt.o.own _ hK rfl, hSt.o.len⟩
    have e : strF key count nonce b = (strK key nonce (b, count) (ys.map Subtype.val)).1 := by
      unfold strF
      rw [hlh.out, show ys.map Subtype.val = ys.unattach from rfl, hys]
    refine ⟨_, results_tmp rfl _ _ _, _, _, _, rfl, ?_, ?_, ?_⟩
    · rw [e]; exact hO
    · intro k hk; have e : g = k := (by cases hk; rfl); omega
    · exact hSt.b.trans (belowK_b (w := w) (Nat.le_refl _) W D _ _ (by omega) hK rfl rfl)
  case stop =>
    rintro D c pre W _ _ h _
    exact h.elim
theorem stream_c (key : List UInt8) (count : UInt32) (nonce : List UInt8) (S : Nat → Prop) (ad : Addr) (len cap : Nat) (b : List UInt8) (w : World) (hk : key.length = 32) (hn : nonce.length = 12)
    (hR : Rd w S (some ad) b) (hl : b.length = len) (h0 : 0 < len) (hlb : len ≤ 1000000) :
    Calls Tryz.prog 106 #[.agg (key.map B8).toArray, U count, .agg (nonce.map B8).toArray, .slice (some ad) len cap] w (NewOB w (strF key count nonce b)) :=
  callsIn_wide.1 (stream_in key count nonce S ad len cap b w hk hn hR hl h0 hlb)
end Go.Proofs.YtolgaapiedbkfaaGreat
