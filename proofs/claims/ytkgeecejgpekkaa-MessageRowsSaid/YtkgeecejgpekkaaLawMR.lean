/-
  The walk of MessageRows: it returns true, and changes nothing that lay there. Conditions: those of the row that is handed over.
-/
import Derived.Test.YtkgeecejgpekkaaMsgB
import Derived.Test.YtkgeecejgpekkaaMsgT
import Derived.Test.YtkgeecejgpekkaaMsgAp
import Derived.Deep.CutBlock
import Derived.Deep.CutRange
namespace Go.Proofs.Ytkgeecejgpekkaa
open Go.RowKit Go.Kx

theorem takeM_cut {k : Nat} {l mo : List UInt8} (P : Nat) (hl : l.length ≤ 2048) : ∃ kk bd rs okb, takeM ((msgB k l ++ mo).take P) = (kk, bd, rs, okb, 0) := by
  by_cases h4 : ((msgB k l ++ mo).take P).length < 4
  · exact ⟨_, _, _, _, by unfold takeM; rw [if_pos h4]⟩
  · obtain ⟨a, b1, b2, b3, _, hb, hx⟩ := msgB_cons k l
    have hP : 4 ≤ P := by rw [List.length_take] at h4; omega
    have hn : beN ((((msgB k l ++ mo).take P).drop 1).take 3) = l.length := by
      obtain ⟨j, rfl⟩ : ∃ j, P = j + 4 := ⟨P - 4, by omega⟩
      rw [hx]
      simp only [List.cons_append, List.take_succ_cons, List.drop_succ_cons, List.drop_zero]
      rw [List.take_zero, show ([b1, b2, b3] : List UInt8) = be l.length 3 from hb.symm]
      exact beN_be (by omega)
    unfold takeM
    rw [if_neg h4]
    simp only
    rw [hn, if_neg (by omega)]
    split
    · exact ⟨_, _, _, _, rfl⟩
    · exact ⟨_, _, _, _, rfl⟩

theorem hopN (n : Int) (m : Nat) (hm : 0 < m) (hb : m ≤ 1000000) : ∃ P : Nat, wrap64 ((IntKind.u64.wrap n).tmod (m : Int)) = (P : Int) ∧ P < m := by
  have h0 : 0 ≤ IntKind.u64.wrap n := by rw [IntKind.wrap_u64]; omega
  rw [Int.tmod_eq_emod_of_nonneg h0]
  generalize IntKind.u64.wrap n = y at h0
  have h1 : 0 ≤ y % (m : Int) ∧ y % (m : Int) < (m : Int) := ⟨Int.emod_nonneg _ (by omega), Int.emod_lt_of_pos _ (by omega)⟩
  generalize y % (m : Int) = x at h1
  rw [IntWalk.wrap64_in x ⟨by omega, by omega⟩]
  exact ⟨x.toNat, by omega, by omega⟩

/-- One round of the first loop: v5 the bytes of those that can be put, v6 they themselves. -/
def MRel1 (w : World) (k : Nat → Int) (F : Nat → List UInt8) (Q : Nat → Option Addr) (N C : Nat → Nat) (M : Nat) (v5 v6 v7 : Value) (wr : World) : Prop :=
  ∃ i gA gT, v7 = .int .i64 ((i : Nat) : Int) ∧ i ≤ M ∧ w.heap.size ≤ gA ∧ w.heap.size ≤ gT ∧ Own wr gA v5 (allB k F (vs k F i)) ∧ Row wr 25 2 gT v6 (vs k F i).length (cellsB k Q N C (vs k F i)) ∧
    (vs k F i = [] ∨ (gA ≠ gT ∧ gA < wr.heap.size ∧ gT < wr.heap.size)) ∧ (vs k F i = [] → v5 = .slice none 0 0 ∧ v6 = .slice none 0 0) ∧ Below w.heap.size w wr

/-- One round of the second loop: v14 what is left, v15 how many were taken. -/
def MRel2 (wc : World) (k : Nat → Int) (F : Nat → List UInt8) (V : List Nat) (v14 v15 : Value) (wr : World) : Prop :=
  ∃ i g n c p, v15 = .int .i64 ((i : Nat) : Int) ∧ i ≤ V.length ∧ v14 = .slice p n c ∧ (allB k F (V.drop i)).length = n ∧ Own wr g (.slice p n c) (allB k F (V.drop i)) ∧ Below wc.heap.size wc wr

set_option maxHeartbeats 20000000 in
set_option maxRecDepth 100000 in
theorem rows_m (p0 : Option Addr) (len cap : Nat) (cut : Int) (w : World) (h0 : IsMsgs w p0 len cap) :
    Calls Try.prog 3 #[.slice p0 len cap, .int .i64 cut] w fun e w' => e = .returned (.bool true) ∧ Below w.heap.size w w' := by
  obtain ⟨k, F, Q, N, C, hF⟩ := open_msgs h0
  obtain ⟨M, hM⟩ : ∃ M, M = min len 8 := ⟨_, rfl⟩
  have HF := Lib.hid hF
  have HM := Lib.hid hM
  have hM8 : M ≤ 8 := by omega
  have hMl : M ≤ len := by omega
  clear h0 hF hM
  go_enter Try.func3, Try.ntmps3
  go_upto_block 0 with (fail)
  go_cut [5, 6] (fun v5 v6 wx => ∃ gA gT, w.heap.size ≤ gA ∧ w.heap.size ≤ gT ∧ Own wx gA v5 (allB k F (vs k F M)) ∧ Row wx 25 2 gT v6 (vs k F M).length (cellsB k Q N C (vs k F M)) ∧ Below w.heap.size w wx)
  case first =>
    go_wp2_with fail
    go_loopw [5, 6, 7, 8, 9, 10, 11, 12] (fun v5 v6 v7 _ _ _ _ _ wr => MRel1 w k F Q N C M v5 v6 v7 wr) (fun _ _ v7 _ _ _ _ _ _ => 8 - (intOf v7).toNat)
    case atStart => exact ⟨0, w.heap.size, w.heap.size + 1, rfl, by omega, by omega, by omega, Own.nil _ _, Row.nil _ _ _ _, .inl rfl, fun _ => ⟨rfl, rfl⟩, Below.refl _ _⟩
    case round =>
      obtain ⟨i, gA, gT, rfl, hiM, hgA, hgT, hO, hT, hne, hnil, hB⟩ := hrel
      have HO := Lib.hid hO
      have HT := Lib.hid hT
      have HNE := Lib.hid hne
      have HNL := Lib.hid hnil
      have HB := Lib.hid hB
      clear hO hT hne hnil hB
      by_cases hgo : i < len ∧ i < 8
      · obtain ⟨hg1, hg2⟩ := hgo
        obtain ⟨b, o, rfl, hlc, hcm, hmsg⟩ := HF.out i hg1
        have hblt : b < w.heap.size := by have := World.block_lt_of_cell? w _ hmsg.c0; exact this
        have d0 := (HB.out.cell (p := ⟨b, o + i * 2, none⟩) hblt).trans hmsg.c0
        have d1 := (HB.out.cell (p := ⟨b, o + (i * 2 + 1), none⟩) hblt).trans hmsg.c1
        rw [show o + (i * 2 + 1) = o + i * 2 + 1 by omega] at d1
        have HMS := Lib.hid hmsg
        clear hmsg
        have i0 : (0 : Int) ≤ (i : Int) := by omega
        have i1 : (i : Int) < (len : Int) := by omega
        have i2 : (i : Int) < 8 := by omega
        unfold maxLen at hcm
        by_cases hok : okM k F i
        · obtain ⟨K, hK⟩ : ∃ K : Nat, k i = K := ⟨(k i).toNat, by have := hok.1; omega⟩
          have hK256 : K < 256 := by have := hok.1; omega
          have hFl := hok.2
          rw [hK] at d0
          have HOK := Lib.hid (And.intro hok hK)
          clear hok hK
          have BX := Lib.hid (Box2.new wr 25 (.int .i64 (K : Int)) (.slice (Q i) (N i) (C i)))
          have hal := (Below.refl _ wr).alloc (Nat.le_refl _) (.cells #[.int .i64 (K : Int), .slice (Q i) (N i) (C i)] 25)
          have hz0 : (wr.alloc (.cells #[.int .i64 (K : Int), .slice (Q i) (N i) (C i)] 25)).heap.size = wr.heap.size + 1 := by simp
          have HAL := Lib.hid hal
          have HRB := Lib.hid (HMS.out.rd.below (HB.out.alloc HB.out.size (.cells #[.int .i64 (K : Int), .slice (Q i) (N i) (C i)] 25)))
          clear hal
          go_upto_region 12 with (first
            | (go_at_call 6; refine (mput_yes K (· < w.heap.size) (Q i) (N i) (C i) (F i) _ hK256 (by rw [← HMS.out.len]; exact hFl) HRB.out HMS.out.nil HMS.out.len).mono ?_; rintro e w2 ⟨g2, n2, c2, rfl, q1, q2, q3, q4, q5, q6, q7⟩; have bx2 := BX.out.only (.of_below q7 (r := fun _ => False)) (fun h => h); have y0 := bx2.c0; have y1 := bx2.c1)
            | (go_at_call 7; refine (rmput_yes K (· < w.heap.size) (Q i) (N i) (C i) (F i) _ hK256 (by rw [← HMS.out.len]; exact hFl) (HRB.out.below q7) HMS.out.nil HMS.out.len).mono ?_; rintro e w3 ⟨g3, n3, c3, rfl, t1, t2, t3, t4, t5, t6, t7⟩; have s1 := run_strO (Own.keep q6 t7) q1; have s2 := run_strO t6 t1))
          obtain ⟨X, hX⟩ : ∃ X, X = msgB K (F i) := ⟨_, rfl⟩
          rw [← hX] at q1 q6
          have HX := Lib.hid hX
          have hO3 : Own w3 gA u5 (allB k F (vs k F i)) := Own.keep (Own.keep (HO.out.only ((Only.refl (fun _ => False) wr).alloc _) (fun h => h)) q7) t7
          have hT3 : Row w3 25 2 gT u6 (vs k F i).length (cellsB k Q N C (vs k F i)) := Row.only (Row.only (Row.only HT.out ((Only.refl (fun _ => False) wr).alloc _) (fun h => h)) (Only.of_below (r := fun _ => False) q7) (fun h => h)) (Only.of_below (r := fun _ => False) t7) (fun h => h)
          have hq3 : Own w3 g2 (.slice (some ⟨g2, 0, none⟩) n2 c2) X := Own.keep q6 t7
          have hbx3 : Box2 w3 wr.heap.size 25 (.int .i64 (K : Int)) (.slice (Q i) (N i) (C i)) := bx2.only (.of_below t7 (r := fun _ => False)) (fun h => h)
          have hB3 : Below w.heap.size w w3 := (HB.out.alloc HB.out.size _).trans ((q7.mono (Nat.le_trans HB.out.size HAL.out.size)).trans (t7.mono (Nat.le_trans HB.out.size (Nat.le_trans HAL.out.size q7.size))))
          have hz23 := t7.size
          have hz12 := q7.size
          -- whatever block a nil row may be said to lie in: a far one
          obtain ⟨gA2, gT2, hO3', hT3', hAT, hfar⟩ : ∃ gA2 gT2, Own w3 gA2 u5 (allB k F (vs k F i)) ∧ Row w3 25 2 gT2 u6 (vs k F i).length (cellsB k Q N C (vs k F i)) ∧ gA2 ≠ gT2 ∧ ((w.heap.size ≤ gA2 ∧ gA2 < wr.heap.size ∧ w.heap.size ≤ gT2 ∧ gT2 < wr.heap.size) ∨ (gA2 = w3.heap.size + 10 ∧ gT2 = w3.heap.size + 11)) := by
            by_cases hv : vs k F i = []
            · obtain ⟨h1, h2⟩ := HNL.out hv
              refine ⟨w3.heap.size + 10, w3.heap.size + 11, ?_, ?_, by omega, .inr ⟨rfl, rfl⟩⟩
              · rw [hv, h1]; exact Own.nil _ _
              · rw [hv, h2]; exact Row.nil _ _ _ _
            · rcases HNE.out with h | ⟨h1, h2, h3⟩
              · exact absurd h hv
              · exact ⟨gA, gT, hO3, hT3, h1, .inl ⟨hgA, h2, hgT, h3⟩⟩
          have hvl := vs_len k F i
          have hall := allB_le k F (vs k F i) (fun r hr => (vs_mem hr).2)
          have hXl : X.length = (F i).length + 4 := by rw [HX.out, msgB_length]
          have W3 := Lib.hid (And.intro (And.intro hO3' hT3') (And.intro hq3 (And.intro hbx3 hB3)))
          clear s1 s2 hO3 hT3 hO3' hT3' hq3 hbx3 hB3 q6 q7 t6 t7 bx2 y0 y1 hX t1 t2 t3 t4 t5
          have hd : Only (fun _ => False) w3 w3.drew := (Only.refl _ _).drew
          have oA := W3.out.1.1.only hd (fun h => h)
          have oT := W3.out.1.2.only hd (fun h => h)
          have oX := W3.out.2.1.only hd (fun h => h)
          have bx := W3.out.2.2.1.only hd (fun h => h)
          have bD : Below w.heap.size w w3.drew := W3.out.2.2.2.drew
          have hwz := HB.out.size
          have hn2 : 0 < n2 := by omega
          have hbd : (allB k F (vs k F i)).length + n2 ≤ 1000000 := by omega
          have hvs : (vs k F i).length ≤ 1000 := by omega
          have hDs : w3.drew.heap.size = w3.heap.size := rfl
          have hms : (w3.alloc (.cells #[.int .i64 (K : Int), .slice (Q i) (N i) (C i)] 25)).drew.heap.size = w3.heap.size + 1 := by simp
          have cM := fun (W : World) => cells_new W [.int .i64 (K : Int), .slice (Q i) (N i) (C i)] 25
          have am : Only (fun _ => False) w3.drew (w3.alloc (.cells #[.int .i64 (K : Int), .slice (Q i) (N i) (C i)] 25)).drew := (Only.refl (fun _ => False) w3.drew).alloc _
          -- order 1: the bytes first
          obtain ⟨gA1, m1, cA1, v1, r1, l1, o1, x1, y1', h1⟩ := ap_bytes w3.drew gA2 u5 _ X oA g2 n2 c2 oX.rd q1 hn2 hbd
          have hv1s : (v1.alloc (.cells #[.int .i64 (K : Int), .slice (Q i) (N i) (C i)] 25)).heap.size = v1.heap.size + 1 := by simp
          have a1 : Only (fun _ => False) v1 (v1.alloc (.cells #[.int .i64 (K : Int), .slice (Q i) (N i) (C i)] 25)) := (Only.refl (fun _ => False) v1).alloc _
          obtain ⟨gT1, cT1, z1, rT1, t1', xT1, yT1, hT1⟩ := ap_msg (v1.alloc (.cells #[.int .i64 (K : Int), .slice (Q i) (N i) (C i)] 25)) gT2 u6 _ _ (Row.only (Row.only oT h1 (by show ¬ gT2 = gA2; omega)) a1 (fun h => h)) v1.heap.size (K : Int) (.slice (Q i) (N i) (C i)) rfl (cM v1) hvs
          -- orders 2 and 3: the message's row is made first
          obtain ⟨gA3, m2, cA2, v2, r2, l2, o2, x2, y2', h2⟩ := ap_bytes (w3.alloc (.cells #[.int .i64 (K : Int), .slice (Q i) (N i) (C i)] 25)).drew gA2 u5 _ X (oA.only am (fun h => h)) g2 n2 c2 (oX.only am (fun h => h)).rd q1 hn2 hbd
          have cD : ∀ j u, [Value.int .i64 (K : Int), Value.slice (Q i) (N i) (C i)][j]? = some u → (w3.alloc (.cells #[.int .i64 (K : Int), .slice (Q i) (N i) (C i)] 25)).drew.cell? ((⟨w3.heap.size, 0, none⟩ : Addr).add j) = some u := cM w3
          have hv2s : w3.heap.size + 1 ≤ v2.heap.size := by have := h2.size; omega
          have c2' : ∀ j u, [Value.int .i64 (K : Int), Value.slice (Q i) (N i) (C i)][j]? = some u → v2.cell? ((⟨w3.heap.size, 0, none⟩ : Addr).add j) = some u := fun j u hu => (h2.cell_at (by rw [add_block]; show w3.heap.size < _; omega) (by rw [add_block]; show ¬ w3.heap.size = gA2; omega)).trans (cD j u hu)
          obtain ⟨gT3, cT2, z2, rT2, t2', xT2, yT2, hT2⟩ := ap_msg v2 gT2 u6 _ _ (Row.only (Row.only oT am (fun h => h)) h2 (by show ¬ gT2 = gA2; omega)) w3.heap.size (K : Int) (.slice (Q i) (N i) (C i)) rfl c2' hvs
          obtain ⟨gT4, cT3, v3, rT3, t3', xT3, yT3, hT3⟩ := ap_msg (w3.alloc (.cells #[.int .i64 (K : Int), .slice (Q i) (N i) (C i)] 25)).drew gT2 u6 _ _ (Row.only oT am (fun h => h)) w3.heap.size (K : Int) (.slice (Q i) (N i) (C i)) rfl cD hvs
          obtain ⟨gA4, m3, cA3, z3, r3, l3, o3, x3, y3', h3⟩ := ap_bytes v3 gA2 u5 _ X ((oA.only am (fun h => h)).only hT3 (by show ¬ gA2 = gT2; omega)) g2 n2 c2 ((oX.only am (fun h => h)).only hT3 (by show ¬ g2 = gT2; omega)).rd q1 hn2 hbd
          have nb1 : wr.heap.size ≠ gA2 := by omega
          have nb2 : wr.heap.size ≠ gT2 := by omega
          have bv1 := bx.only h1 nb1
          have bv1m := bv1.only a1 (fun h => h)
          have bz1 := bv1m.only hT1 nb2
          have bm := bx.only am (fun h => h)
          have bv2 := bm.only h2 nb1
          have bz2 := bv2.only hT2 nb2
          have bv3 := bm.only hT3 nb2
          have bz3 := bv3.only h3 nb1
          have BB := Lib.hid (And.intro (And.intro bx (And.intro bv1 (And.intro bv1m bz1))) (And.intro bm (And.intro (And.intro bv2 bz2) (And.intro bv3 bz3))))
          have hz1s := h1.size
          have hz3s := h3.size
          have ht1s := hT1.size
          have ht3s := hT3.size
          have hz2s := h2.size
          have ht2s := hT2.size
          have f1 : w.heap.size ≤ gA1 ∧ w.heap.size ≤ gT1 ∧ gA1 ≠ gT1 ∧ gA1 < z1.heap.size := by omega
          have f2 : w.heap.size ≤ gA3 ∧ w.heap.size ≤ gT3 ∧ gA3 ≠ gT3 ∧ gA3 < z2.heap.size := by omega
          have f3 : w.heap.size ≤ gA4 ∧ w.heap.size ≤ gT4 ∧ gA4 ≠ gT4 ∧ gT4 < z3.heap.size := by omega
          have e1 : Own z1 gA1 (.slice (some ⟨gA1, 0, none⟩) m1 cA1) (allB k F (vs k F i) ++ X) := (o1.only a1 (fun h => h)).only hT1 (by show ¬ gA1 = gT2; omega)
          have e2 : Own z2 gA3 (.slice (some ⟨gA3, 0, none⟩) m2 cA2) (allB k F (vs k F i) ++ X) := o2.only hT2 (by show ¬ gA3 = gT2; omega)
          have e3 := Row.only t3' h3 (by show ¬ gT4 = gA2; omega)
          have g1' : Below w.heap.size w z1 := below_only (below_only (below_only bD bD.size h1 (by intro k hk e; omega)) (by omega) a1 (fun _ _ h => h)) (by omega) hT1 (by intro k hk e; omega)
          have g2' : Below w.heap.size w z2 := below_only (below_only (below_only bD bD.size am (fun _ _ h => h)) (by omega) h2 (by intro k hk e; omega)) (by omega) hT2 (by intro k hk e; omega)
          have g3' : Below w.heap.size w z3 := below_only (below_only (below_only bD bD.size am (fun _ _ h => h)) (by omega) hT3 (by intro k hk e; omega)) (by omega) h3 (by intro k hk e; omega)
          have EE := Lib.hid (And.intro (And.intro e1 (And.intro t1' g1')) (And.intro (And.intro e2 (And.intro t2' g2')) (And.intro o3 (And.intro e3 g3'))))
          clear e1 e2 e3 g1' g2' g3' t1' t2' t3' o1 o2 o3 bv1 bv1m bz1 bm bv2 bz2 bv3 bz3 bx oA oT oX bD hd am a1 h1 h2 h3 hT1 hT2 hT3 cM cD c2'
          go_region_held3 (fun w' => w'.cell? ⟨wr.heap.size, 0, none⟩ = some (.int .i64 (K : Int)) ∧ w'.cell? ⟨wr.heap.size, 1, none⟩ = some (.slice (Q i) (N i) (C i))) (first | exact ⟨BB.out.1.1.c0, BB.out.1.1.c1⟩ | exact ⟨BB.out.2.1.c0, BB.out.2.1.c1⟩ | exact ⟨BB.out.1.2.1.c0, BB.out.1.2.1.c1⟩ | exact ⟨BB.out.1.2.2.1.c0, BB.out.1.2.2.1.c1⟩ | exact ⟨BB.out.1.2.2.2.c0, BB.out.1.2.2.2.c1⟩ | exact ⟨BB.out.2.2.1.1.c0, BB.out.2.2.1.1.c1⟩ | exact ⟨BB.out.2.2.1.2.c0, BB.out.2.2.1.2.c1⟩ | exact ⟨BB.out.2.2.2.1.c0, BB.out.2.2.2.1.c1⟩ | exact ⟨BB.out.2.2.2.2.c0, BB.out.2.2.2.2.c1⟩ | go_keep)
            (first
              | (refine step_builtin rfl (.tmp 80) (.tmp 81) 23 23 rfl _ _ (by simp [Act.eval]) (by simp [Act.eval]) r1 ?_)
              | (refine step_builtin rfl (.tmp 80) (.tmp 81) 23 23 rfl _ _ (by simp [Act.eval]) (by simp [Act.eval]) r2 ?_)
              | (refine step_builtin rfl (.tmp 80) (.tmp 81) 23 23 rfl _ _ (by simp [Act.eval]) (by simp [Act.eval]) r3 ?_)
              | (refine step_builtin rfl (.tmp 83) (.tmp 85) 22 22 rfl _ _ (by simp [Act.eval]) (by simp [Act.eval]) rT1 ?_)
              | (refine step_builtin rfl (.tmp 83) (.tmp 85) 22 22 rfl _ _ (by simp [Act.eval]) (by simp [Act.eval]) rT2 ?_)
              | (refine step_builtin rfl (.tmp 83) (.tmp 85) 22 22 rfl _ _ (by simp [Act.eval]) (by simp [Act.eval]) rT3 ?_))
          all_goals go_wp2
          all_goals
            have hvs1 := vs_yes HOK.out.1
            have hall1 : allB k F (vs k F (i + 1)) = allB k F (vs k F i) ++ X := by rw [hvs1, allB_snoc, HX.out, HOK.out.2]; rfl
            have hcel1 : cellsB k Q N C (vs k F (i + 1)) = cellsB k Q N C (vs k F i) ++ [.int .i64 (K : Int), .slice (Q i) (N i) (C i)] := by rw [hvs1, cellsB_snoc, HOK.out.2]
            have hl1 : (vs k F (i + 1)).length = (vs k F i).length + 1 := by rw [hvs1]; simp
            first
              | exact ⟨⟨i + 1, gA3, gT3, by simp, by have := HM.out; omega, f2.1, f2.2.1, by rw [hall1]; exact EE.out.2.1.1, by rw [hcel1, hl1]; exact EE.out.2.1.2.1, .inr ⟨f2.2.2.1, f2.2.2.2, yT2⟩, fun h => by rw [hvs1] at h; simp at h, EE.out.2.1.2.2⟩, by simp [intOf]; omega⟩
              | exact ⟨⟨i + 1, gA1, gT1, by simp, by have := HM.out; omega, f1.1, f1.2.1, by rw [hall1]; exact EE.out.1.1, by rw [hcel1, hl1]; exact EE.out.1.2.1, .inr ⟨f1.2.2.1, f1.2.2.2, yT1⟩, fun h => by rw [hvs1] at h; simp at h, EE.out.1.2.2⟩, by simp [intOf]; omega⟩
              | exact ⟨⟨i + 1, gA4, gT4, by simp, by have := HM.out; omega, f3.1, f3.2.1, by rw [hall1]; exact EE.out.2.2.1, by rw [hcel1, hl1]; exact EE.out.2.2.2.1, .inr ⟨f3.2.2.1, y3', f3.2.2.2⟩, fun h => by rw [hvs1] at h; simp at h, EE.out.2.2.2.2⟩, by simp [intOf]; omega⟩
        · have hnot : ¬ ((0 ≤ k i ∧ k i < 256) ∧ N i ≤ 2048) := fun h => hok ⟨h.1, by rw [HMS.out.len]; exact h.2⟩
          have HOK := Lib.hid (And.intro hok hnot)
          clear hok hnot
          have BX := Lib.hid (Box2.new wr 25 (.int .i64 (k i)) (.slice (Q i) (N i) (C i)))
          go_upto_region 9 with (first
            | (go_at_call 6; refine (mput_no (k i) (Q i) (N i) (C i) _ HOK.out.2).mono ?_; rintro e w2 ⟨rfl, q7⟩; have bx2 := BX.out.only (.of_below q7 (r := fun _ => False)) (fun h => h); have y0 := bx2.c0; have y1 := bx2.c1)
            | (go_at_call 7; refine (rmput_no (k i) (Q i) (N i) (C i) _ HOK.out.2).mono ?_; rintro e w3 ⟨rfl, t7⟩))
          have hz0 : (wr.alloc (.cells #[.int .i64 (k i), .slice (Q i) (N i) (C i)] 25)).heap.size = wr.heap.size + 1 := by simp
          have hal := (Below.refl wr.heap.size wr).alloc (Nat.le_refl _) (.cells #[.int .i64 (k i), .slice (Q i) (N i) (C i)] 25)
          have hq := q7.size
          have ht := t7.size
          have hall : Below wr.heap.size wr w3 := hal.trans ((q7.mono hal.size).trans (t7.mono (by omega)))
          have s1 := run_strO (w := w3) (g := 0) (p := none) (n := 0) (c := 0) (Own.nil w3 0) rfl
          have hO3 := Own.keep HO.out hall
          have hT3 := Row.only HT.out (Only.of_below (r := fun _ => False) hall) (fun h => h)
          have W3 := Lib.hid (And.intro hO3 (And.intro hT3 (HB.out.trans (hall.mono HB.out.size))))
          have hsz := hall.size
          clear q7 t7 bx2 y0 y1 hal hall hO3 hT3
          go_wp2
          have hvs1 := vs_no HOK.out.1
          refine ⟨⟨i + 1, gA, gT, by simp, by have := HM.out; omega, hgA, hgT, by rw [hvs1]; exact W3.out.1, by rw [hvs1]; exact W3.out.2.1, ?_, fun h => HNL.out (by rw [← hvs1]; exact h), W3.out.2.2⟩, by simp [intOf]; omega⟩
          rw [hvs1]
          rcases HNE.out with h | ⟨h1, h2, h3⟩
          · exact .inl h
          · exact .inr ⟨h1, by omega, by omega⟩
      · have hiM' : i = M := by have := HM.out; omega
        subst hiM'
        obtain ⟨pA, cA, rfl, hfA⟩ := HO.out.form
        obtain ⟨pT, cT, rfl, hfT⟩ := Row.form HT.out
        by_cases hlt : i < len
        · have i1 : (i : Int) < (len : Int) := by omega
          have i2 : ¬ (i : Int) < 8 := by omega
          go_wp2
          go_meet
          exact ⟨gA, gT, hgA, hgT, HO.out, HT.out, HB.out⟩
        · have i1 : ¬ (i : Int) < (len : Int) := by omega
          go_wp2
          go_meet
          exact ⟨gA, gT, hgA, hgT, HO.out, HT.out, HB.out⟩
  case rest =>
    obtain ⟨gA, gT, hgA, hgT, hO, hT, hB⟩ := hcut
    obtain ⟨V, hV⟩ : ∃ V, V = vs k F M := ⟨_, rfl⟩
    rw [← hV] at hO hT
    have hVm : ∀ r ∈ V, r < M ∧ okM k F r := by intro r hr; rw [hV] at hr; exact vs_mem hr
    have hVl : V.length ≤ 8 := by rw [hV]; have := vs_len k F M; omega
    have hAl := allB_le k F V (fun r hr => (hVm r hr).2)
    obtain ⟨NA, hNA⟩ : ∃ NA, (allB k F V).length = NA := ⟨_, rfl⟩
    have hNAl : NA ≤ 16416 := by omega
    obtain ⟨pA, cA, rfl, hNc, hcm, hRA, hnA, _⟩ := hO.form
    rw [hNA] at hO hNc ⊢
    obtain ⟨pT, cT, rfl, hfT, hcells⟩ := Row.form hT
    obtain ⟨a, ha⟩ : ∃ a, a = V.length := ⟨_, rfl⟩
    rw [← ha] at hT hfT hVl ⊢
    have HO := Lib.hid (And.intro hO (And.intro hNA (And.intro hRA hnA)))
    have HT := Lib.hid (And.intro hT (And.intro hfT hcells))
    have HV := Lib.hid (And.intro hVm ha)
    have HB := Lib.hid hB
    have s0 := run_strO hO hNA
    clear hV hO hT hB hRA hnA hNA hfT hcells hVm hAl ha
    go_upto_block 2 with (fail)
    clear s0
    go_cut [14] (fun v14 wx => ∃ g p c, v14 = .slice p 0 c ∧ (p = none → c = 0) ∧ Own wx g (.slice p 0 c) [] ∧ Below wc.heap.size wc wx)
    case first =>
      go_wp2_with fail
      go_loopw [14, 15, 16, 17, 18, 19] (fun v14 v15 _ _ _ _ wr => MRel2 wc k F V v14 v15 wr) (fun _ v15 _ _ _ _ _ => a - (intOf v15).toNat)
      case atStart => exact ⟨0, gA, NA, cA, pA, rfl, by omega, rfl, HO.out.2.1, HO.out.1, Below.refl _ _⟩
      case round =>
        obtain ⟨i, g, n, c, p, rfl, hia, rfl, hn, hOr, hBr⟩ := hrel
        rw [← HV.out.2] at hia
        have HN := Lib.hid hn
        have HOr := Lib.hid hOr
        have HBr := Lib.hid hBr
        clear hn hOr hBr
        by_cases hlt : i < a
        · have hiV : i < V.length := by rw [← HV.out.2]; exact hlt
          obtain ⟨htk, hkk⟩ := allB_take (k := k) (F := F) hiV (fun r hr => (HV.out.1 r hr).2)
          have hnl : n ≤ 16416 := by
            rw [← HN.out]
            have h1 := allB_le k F (V.drop i) (fun r hr => (HV.out.1 r (List.mem_of_mem_drop hr)).2)
            rw [List.length_drop] at h1
            have := HV.out.2
            omega
          obtain ⟨r0, hr0⟩ : ∃ r0, r0 = V[i] := ⟨_, rfl⟩
          rw [← hr0] at htk hkk
          have hrM : r0 < M ∧ okM k F r0 := by rw [hr0]; exact HV.out.1 _ (List.getElem_mem _)
          obtain ⟨b, o, rfl, _, _, hmsg⟩ := HF.out r0 (by omega)
          obtain ⟨KK, hKK⟩ : ∃ KK, KK = (k r0).toNat := ⟨_, rfl⟩
          rw [← hKK] at htk hkk
          have htc := cellsB_at k Q N C V i hiV
          rw [← hr0] at htc
          have hpt := HT.out.2.1 (by omega)
          have t0' := HT.out.2.2 _ _ htc.1
          have t1' := HT.out.2.2 _ _ htc.2
          have hpn : p = none → c = 0 := by obtain ⟨_, _, hx, _, _, _, hz, _⟩ := HOr.out.form; cases hx; exact hz
          have HTK := Lib.hid (And.intro htk (And.intro hkk (And.intro hmsg (And.intro t0' t1'))))
          have i0 : (0 : Int) ≤ (i : Int) := by omega
          have i1 : (i : Int) < (a : Int) := by omega
          obtain ⟨rfl, hgTl⟩ := hpt
          clear htk hkk hmsg t0' t1' htc hKK hr0
          go_upto_region 19 with (go_at_call 8; refine (mtake_c (· = g) p n c (allB k F (V.drop i)) _ HOr.out.rd hpn (by rw [HN.out]; omega) HN.out).mono ?_; rintro e w5 ⟨g1, pa, na, ca, g2, pb, nb, cb, rfl, q1, q2, q3, q4', q5', q6, q7⟩; rw [HTK.out.1] at q1 q2 q5' q6 ⊢)
          have hbx : Box2 (w5.alloc (.cells #[.int .i64 (KK : Int), .slice pa na ca] 29)) w5.heap.size 29 (.int .i64 (KK : Int)) (.slice pa na ca) := Box2.new _ _ _ _
          have hga : Only (fun _ => False) w5 (w5.alloc (.cells #[.int .i64 (KK : Int), .slice pa na ca] 29)).drew := ((Only.refl _ w5).alloc _).drew
          have hBc : Below wc.heap.size wc (w5.alloc (.cells #[.int .i64 (KK : Int), .slice pa na ca] 29)).drew := below_only (HBr.out.trans (q7.mono HBr.out.size)) (Nat.le_trans HBr.out.size q7.size) hga (fun _ _ h => h)
          have hbd : Box2 (w5.alloc (.cells #[.int .i64 (KK : Int), .slice pa na ca] 29)).drew w5.heap.size 29 (.int .i64 (KK : Int)) (.slice pa na ca) := hbx
          have t0 : (w5.alloc (.cells #[.int .i64 (KK : Int), .slice pa na ca] 29)).drew.cell? ⟨gT, i * 2, none⟩ = some (.int .i64 (KK : Int)) := by
            have tk : wc.cell? ⟨gT, i * 2, none⟩ = some (.int .i64 (KK : Int)) := by rw [HTK.out.2.1]; exact HTK.out.2.2.2.1
            exact (hBc.cell (p := ⟨gT, i * 2, none⟩) hgTl).trans tk
          have t1 : (w5.alloc (.cells #[.int .i64 (KK : Int), .slice pa na ca] 29)).drew.cell? ⟨gT, i * 2 + 1, none⟩ = some (.slice (Q r0) (N r0) (C r0)) := (hBc.cell (p := ⟨gT, i * 2 + 1, none⟩) hgTl).trans HTK.out.2.2.2.2
          have s1 := run_strO (q5'.only hga (fun h => h)) q1
          have hBw : Below w.heap.size w (w5.alloc (.cells #[.int .i64 (KK : Int), .slice pa na ca] 29)).drew := HB.out.trans (hBc.mono HB.out.size)
          have s2 := run_str (c := C r0) (HTK.out.2.2.1.rd.below hBw) HTK.out.2.2.1.len
          have HF2 := Lib.hid (And.intro hBc (q6.only hga (fun h => h)))
          have HD := Lib.hid (And.intro hbd (And.intro t0 t1))
          clear hbx hga hBc hbd t0 t1 hBw q7 q6 q5' q1 q3 q4'
          have hq2 := Lib.hid q2
          clear q2
          go_cut [130] from 90 to 131 (fun v wx => v = .bool false ∧ Own wx g2 (.slice pb nb cb) (allB k F (V.drop (i + 1))) ∧ Below wc.heap.size wc wx)
          case first =>
            go_region_held3 (fun w' => w'.cell? ⟨w5.heap.size, 0, none⟩ = some (.int .i64 (KK : Int)) ∧ w'.cell? ⟨w5.heap.size, 1, none⟩ = some (.slice pa na ca) ∧ w'.cell? ⟨gT, i * 2, none⟩ = some (.int .i64 (KK : Int)) ∧ w'.cell? ⟨gT, i * 2 + 1, none⟩ = some (.slice (Q r0) (N r0) (C r0)) ∧ (convert 23 9 (.slice pa na ca)).run Try.prog w' = .ok (.string ⟨(F r0).toArray⟩) w' ∧ (convert 23 9 (.slice (Q r0) (N r0) (C r0))).run Try.prog w' = .ok (.string ⟨(F r0).toArray⟩) w') (first | exact ⟨HD.out.1.c0, HD.out.1.c1, HD.out.2.1, HD.out.2.2, s1, s2⟩ | go_keep) (first | fail)
            all_goals go_wp2
            all_goals go_meet
            all_goals exact ⟨by simp, HF2.out.2, HF2.out.1⟩
          case rest =>
            obtain ⟨rfl, ho, hb⟩ := hcut
            have HH := Lib.hid (And.intro ho hb)
            clear ho hb
            go_wp2
            exact ⟨⟨i + 1, g2, nb, cb, pb, by simp, by have := HV.out.2; omega, rfl, hq2.out, HH.out⟩, by simp [intOf]; omega⟩
        · have hiV : i = V.length := by have := HV.out.2; omega
          have i1 : ¬ (i : Int) < (a : Int) := by omega
          have he : allB k F (V.drop i) = [] := by rw [hiV]; simp [allB]
          have hn0 : n = 0 := by rw [← HN.out, he]; rfl
          have HE := Lib.hid he
          clear hiV he
          have hpn : p = none → c = 0 := by obtain ⟨_, _, hx, _, _, _, hz, _⟩ := HOr.out.form; injection hx with h1 h2 h3; rw [h1, h3]; exact hz
          subst hn0
          go_wp2
          go_meet
          exact ⟨g, p, c, rfl, hpn, by rw [← HE.out]; exact HOr.out, HBr.out⟩
    case rest =>
      obtain ⟨g, p, c, rfl, hpn, hO14, hB14⟩ := hcut
      have H14 := Lib.hid (And.intro hO14 hB14)
      have hw14 : Below w.heap.size w wc := HB.out.trans (hB14.mono HB.out.size)
      have HW := Lib.hid hw14
      have hAll := Own.keep HO.out.1 hB14
      have HAll := Lib.hid hAll
      have h0 : takeM [] = (0, [], [], false, 0) := rfl
      have HT0 := Lib.hid h0
      clear hO14 hB14 hw14 hAll h0
      by_cases hNA : NA = 0
      · subst hNA
        go_upto_region 23 with (go_at_call 8; refine (mtake_c (· = g) p 0 c [] _ H14.out.1.rd hpn (by simp) rfl).mono ?_; rintro e w5 ⟨g1, pa, na, ca, g2, pb, nb, cb, rfl, q1, q2, q3, q4', q5', q6, q7⟩; rw [HT0.out] at q1 q2 q5' q6 ⊢)
        have e2 : nb = 0 := q2.symm
        subst e2
        have HQ := Lib.hid q7
        clear q1 q2 q5' q6 q7
        go_wp2_with (go_at_call 9; refine (mputs_c _).mono ?_; rintro e w6 ⟨rfl, b6⟩)
        go_ret
        have hz := HW.out.size
        have hq := HQ.out.size
        have h5 : Below w.heap.size w w5 := HW.out.trans (HQ.out.mono hz)
        have h6 := h5.alloc h5.size (.cells #[.int .i64 0, .slice pa na ca] 29)
        exact ⟨rfl, h6.trans (b6.mono h6.size)⟩
      · have hNb : ((NA : Int) == 0) = false := by rw [beq_eq_false_iff_ne]; omega
        have hN0 : ¬ (NA : Int) = 0 := by omega
        have hu : IntKind.u64.wrap (NA : Int) = (NA : Int) := by rw [IntKind.wrap_u64]; omega
        obtain ⟨P, hP, hPN⟩ := hopN cut NA (by omega) (by omega)
        have hPi : (P : Int) ≤ (cA : Int) := by omega
        have hPc : P ≤ cA := by omega
        have hP0 : (0 : Int) ≤ (P : Int) := by omega
        obtain ⟨PT, hPT⟩ : ∃ PT, PT = (allB k F V).take P := ⟨_, rfl⟩
        have hPl : PT.length = P := by rw [hPT, List.length_take, HO.out.2.1]; omega
        obtain ⟨kk, bd, rs, okb, htk⟩ : ∃ kk bd rs okb, takeM PT = (kk, bd, rs, okb, 0) := by
          have hmem := HV.out.1
          rw [hPT]
          have hNAe := HO.out.2.1
          cases hVV : V with
          | nil => rw [hVV] at hNAe; simp [allB] at hNAe; omega
          | cons v0 vt =>
            rw [allB_cons]
            exact takeM_cut P (hmem v0 (by rw [hVV]; exact List.mem_cons_self)).2.2
        have hwt : whatM PT = if okb = true then 1 else 0 := by unfold whatM; rw [htk]; simp
        have HPT := Lib.hid (And.intro hPT hPl)
        have HTK := Lib.hid (And.intro htk hwt)
        clear hPT hPl htk hwt
        go_upto_region 28 with (first
          | (go_at_call 8; have hq7 := q7; refine (mtake_c (· = gA) pA P cA PT _ (by rw [HPT.out.1]; exact ((((Own.keep HAll.out q7).only ((Only.refl (fun _ => False) w5).alloc _) (fun h => h)).rd).take P)) (HO.out.2.2.2) (by rw [HPT.out.2]; omega) HPT.out.2).mono ?_; rintro e w6 ⟨g3, pc, nc, cc, g4, pd, nd, cd, rfl, t1, t2, t3, t4, t5, t6, t7⟩; rw [HTK.out.1] at t1 t2 t5 t6 ⊢)
          | (go_at_call 8; refine (mtake_c (· = g) p 0 c [] _ H14.out.1.rd hpn (by simp) rfl).mono ?_; rintro e w5 ⟨g1, pa, na, ca, g2, pb, nb, cb, rfl, q1, q2, q3, q4', q5', q6, q7⟩; rw [HT0.out] at q1 q2 q5' q6 ⊢))
        have e2 : nb = 0 := q2.symm
        subst e2
        have a5 := Own.keep HAll.out q7
        have l0 : Only (fun _ => False) w5 (w5.alloc (.cells #[.int .i64 0, .slice pa na ca] 29)) := (Only.refl _ w5).alloc _
        have l6 : Only (fun _ => False) w6 (w6.alloc (.cells #[.int .i64 (kk : Int), .slice pc nc cc] 29)) := (Only.refl _ w6).alloc _
        have a6 : Own (w6.alloc (.cells #[.int .i64 (kk : Int), .slice pc nc cc] 29)) gA (.slice pA NA cA) (allB k F V) := (Own.keep (a5.only l0 (fun h => h)) t7).only l6 (fun h => h)
        have b25 : Box2 (w6.alloc (.cells #[.int .i64 (kk : Int), .slice pc nc cc] 29)) w6.heap.size 29 (.int .i64 (kk : Int)) (.slice pc nc cc) := Box2.new _ _ _ _
        have m5 : Below w.heap.size w w5 := HW.out.trans (q7.mono HW.out.size)
        have m5' := m5.alloc m5.size (.cells #[.int .i64 0, .slice pa na ca] 29)
        have m6 := m5'.trans (t7.mono m5'.size)
        have m6' := m6.alloc m6.size (.cells #[.int .i64 (kk : Int), .slice pc nc cc] 29)
        have rs6 := t6.only l6 (fun h => h)
        have bd6 := t5.only l6 (fun h => h)
        have H6 := Lib.hid (And.intro a6 (And.intro b25 (And.intro m6' (And.intro rs6 bd6))))
        have T12 := Lib.hid (And.intro t1 t2)
        clear a5 l0 l6 a6 b25 m5 m5' m6 m6' rs6 bd6 t1 t2 t3 t4 t5 t6 t7 q1 q2 q3 q4' q5' q6 q7 hq7
        refine (rmtake_c (· = gA) pA P cA PT _ (by rw [HPT.out.1]; exact H6.out.1.rd.take P) HPT.out.2 hPc hcm).mono ?_
        rintro e w7 ⟨p1, n1, c1, p2, n2, c2, rfl, u1, u2, u3, u4', u5'⟩
        rw [HTK.out.1] at u1 u2 u3 u4' ⊢
        rw [HTK.out.2]
        have U := Lib.hid (And.intro (And.intro u1 u2) (And.intro u3 (And.intro u4' u5')))
        clear u1 u2 u3 u4' u5'
        go_upto_region 28 with (fail)
        have l7 : Below w7.heap.size w7 (w7.alloc (.cells #[.int .i64 (kk : Int), .slice p1 n1 c1] 25)) := (Below.refl _ w7).alloc (Nat.le_refl _) _
        have a7 := Own.keep (Own.keep H6.out.1 U.out.2.2.2) l7
        have b25 := (H6.out.2.1.below U.out.2.2.2).below l7
        have b29 : Box2 (w7.alloc (.cells #[.int .i64 (kk : Int), .slice p1 n1 c1] 25)) w7.heap.size 25 (.int .i64 (kk : Int)) (.slice p1 n1 c1) := Box2.new _ _ _ _
        have rs7 := Own.keep (Own.keep H6.out.2.2.2.1 U.out.2.2.2) l7
        have bd7 := Own.keep (Own.keep H6.out.2.2.2.2 U.out.2.2.2) l7
        have rr7 := U.out.2.2.1.below l7
        have rb7 := U.out.2.1.below l7
        have m7 := H6.out.2.2.1.trans (U.out.2.2.2.mono H6.out.2.2.1.size)
        have m7' := m7.alloc m7.size (.cells #[.int .i64 (kk : Int), .slice p1 n1 c1] 25)
        have H7 := Lib.hid (And.intro (And.intro a7 (And.intro b25 b29)) (And.intro (And.intro rs7 bd7) (And.intro (And.intro rr7 rb7) m7')))
        clear l7 a7 b25 b29 rs7 bd7 rr7 rb7 m7 m7'
        cases okb
        all_goals
          go_wp2_with (go_at_call 9; refine (mputs_c _).mono ?_; rintro e w8 ⟨rfl, b8⟩; have s5 := run_strO (Own.keep H7.out.1.1 b8) HO.out.2.1; have s26 := run_strO (Own.keep H7.out.2.1.1 b8) T12.out.2; have s30 := run_str (c := c2) (H7.out.2.2.1.1.below b8) U.out.1.2; have sb1 := run_strO (Own.keep H7.out.2.1.2 b8) T12.out.1; have sb2 := run_str (c := c1) (H7.out.2.2.1.2.below b8) U.out.1.1; have x25 := H7.out.1.2.1.below b8; have x29 := H7.out.1.2.2.below b8; have y0 := x25.c0; have y1 := x25.c1; have y2 := x29.c0; have y3 := x29.c1)
          go_ret
          exact ⟨rfl, H7.out.2.2.2.trans (b8.mono H7.out.2.2.2.size)⟩
end Go.Proofs.Ytkgeecejgpekkaa
