/-
  The contract of chacha.Block. Conditions: those of the theorem.
-/
import Derived.Test.YtolgaapiedbkfaaGreatZg5
import Derived.Deep.RegionHeld3
import Derived.Lib.SlBytesConst
import Derived.Test.YtolgaapiedbkfaaGreatZg4
namespace Go.Proofs.YtolgaapiedbkfaaGreat
open Go.RowKit Go.Kx Go.Shelf
set_option linter.unusedVariables false
set_option linter.unusedSimpArgs false
set_option maxRecDepth 100000
attribute [local go_sem ↓] U_add U_mul U_xor U_or U_and U_not U_guard1 U_guard2 U_store exec_stU
attribute [local go_sem ↓] exec_bsU
attribute [local go_sem] st1_U st1_i bs1_U

/-- A row of words of the call's own, not empty. -/
structure OU (w : World) (g n c : Nat) (l : List UInt32) : Prop where
  row : Row w 173 1 g (.slice (some ⟨g, 0, none⟩) n c) n (l.map U)
  len : l.length = n
  lt : g < w.heap.size
theorem OU.below {w w' : World} {g n c : Nat} {l : List UInt32} (h : OU w g n c l) (hb : Below w.heap.size w w') : OU w' g n c l := ⟨Row.only h.row (Only.of_below (r := fun _ => False) hb) (fun h => h), h.len, Nat.lt_of_lt_of_le h.lt hb.size⟩
theorem OU.only {w w' : World} {r : Nat → Prop} {g n c : Nat} {l : List UInt32} (h : OU w g n c l) (ho : Only r w w') (hd : ¬ r g) : OU w' g n c l := ⟨Row.only h.row ho hd, h.len, Nat.lt_of_lt_of_le h.lt ho.size⟩
theorem OU.cells {w : World} {g n c : Nat} {l : List UInt32} (h : OU w g n c l) : ∀ j u, (l.map U)[j]? = some u → w.cell? ((⟨g, 0, none⟩ : Addr).add j) = some u := h.row.1.cells (g := g) rfl
theorem OU.of {w : World} {g : Nat} {v : Value} {l : List UInt32} (h : Row w 173 1 g v l.length (l.map U)) (hl : 0 < l.length) : ∃ c, v = .slice (some ⟨g, 0, none⟩) l.length c ∧ OU w g l.length c l := by
  obtain ⟨⟨h1, h2⟩, h3⟩ := h
  rcases h2 with ⟨_, h0⟩ | ⟨g', cap, cur, hv, hb, hg, hn, hm, hs, ht⟩
  · omega
  · have e : g' = g := by rw [hv] at h3; simpa [Value.ownBlock] using h3
    subst e
    subst hv
    exact ⟨cap, rfl, ⟨⟨⟨h1, .inr ⟨g', cap, cur, rfl, hb, hg, hn, hm, hs, ht⟩⟩, .inr rfl⟩, rfl, (Array.getElem?_eq_some_iff.1 hg).1⟩⟩
theorem u_ones (l : List UInt32) : ∀ u ∈ l.map U, u.oneCell' = true := by
  intro u hu
  obtain ⟨x, _, rfl⟩ := List.mem_map.1 hu
  rfl
theorem step_appU {w : World} {ops : Array Oper} {o : Oper} {a : Act} {K : Act → World → Prop} {Q : Exit → Act → World → Prop} {E : Prop} (hgd : o.guard = none) (s x : Operand)
    (ho : o.op = .call { callee := .builtin .append, args := #[s, x], argTypes := #[192, 192] }) {g n c : Nat} {l : List UInt32} (h : OU w g n c l) (hs : a.eval s = .slice (some ⟨g, 0, none⟩) n c) (hn : 0 < n)
    (ad : Addr) (m k : Nat) (l2 : List UInt32) (hx : a.eval x = .slice (some ad) m k) (hm : l2.length = m) (hc : ∀ j u, (l2.map U)[j]? = some u → w.cell? (ad.add j) = some u) (hb : n + m ≤ 1000)
    (hK : ∀ g' c' w', OU w' g' (n + m) c' (l ++ l2) → (g' = g ∨ g' = w.heap.size) → Only (· = g) w w' → K (a.put o.dst (.slice (some ⟨g', 0, none⟩) (n + m) c')) w') :
    if Region.wanted o (yielded ops a.tmps) = true then Oper.wp Tryz.prog o a w K Q else E :=
  step_append_row hgd s x 192 ho 173 (.int .u32 0) 1 4 Tryz.underlying192 info32 rfl (by decide) g _ n (l.map U) hs h.row ad m k (l2.map U) hx (by rw [List.length_map, hm, Nat.mul_one]) hc (u_ones l2) (by unfold maxLen; omega) (by omega) _ rfl
    (fun g' v' w' hr hg ho => by
      have e : (l ++ l2).length = n + m := by rw [List.length_append, h.len, hm]
      rw [← List.map_append, ← e] at hr
      obtain ⟨c', rfl, hO⟩ := OU.of hr (by omega)
      rw [e] at hO ⊢
      exact hK g' c' w' hO hg ho)
/-- A new row of words, its slice spelled out. -/
def WordsN (w : World) (l : List UInt32) (e : Ending) (w' : World) : Prop := ∃ g c, e = .returned (.slice (some ⟨g, 0, none⟩) l.length c) ∧ OU w' g l.length c l ∧ w.heap.size ≤ g ∧ Below w.heap.size w w'
theorem WordsR.n {w w' : World} {l : List UInt32} {e : Ending} (h : WordsR w l e w') (hl : 0 < l.length) : WordsN w l e w' := by
  obtain ⟨v, rfl, hr, hb⟩ := h
  obtain ⟨h1, h2⟩ := hr
  rcases h2 with ⟨_, h0⟩ | ⟨g, cap, cur, rfl, hbase, hg, rest⟩
  · omega
  · exact ⟨g, cap, rfl, ⟨⟨⟨h1, .inr ⟨g, cap, cur, rfl, Nat.zero_le _, hg, rest⟩⟩, .inr rfl⟩, rfl, (Array.getElem?_eq_some_iff.1 hg).1⟩, hbase, hb⟩
theorem words_c (S : Nat → Prop) (g o len cap : Nat) (b : List UInt8) (w : World) (hR : Rd w S (some ⟨g, o, none⟩) b) (hg : g < w.heap.size) (hl : b.length = len) (h4 : len % 4 = 0) (h0 : 0 < len) (hlb : len ≤ 64) (hlc : len ≤ cap) (hcb : cap ≤ 4611686018427387904) :
    Calls Tryz.prog 161 #[.slice (some ⟨g, o, none⟩) len cap] w (WordsN w (wordsF b)) :=
  (callsIn_wide.1 (words_in Fence.wide 6 trivial trivial trivial rfl (Nat.le_refl _) S g o len cap b w hR hg hl h4 hlb hlc hcb)).mono fun e w' h => h.n (by rw [wordsF_len, hl]; omega)

theorem ArrB.rd {w : World} {r t : Nat} {xs : List UInt8} (h : ArrB w r t xs) : Rd w (· = r) (some ⟨r, 0, none⟩) xs := Rd.of_at rfl fun i hi => by rw [Nat.zero_add]; exact h.c i hi
theorem rd_marked (w : World) (t : Nat) (l : List UInt8) (f : Nat × Nat) : Rd (w.alloc (.cells (l.map B8).toArray t f)) (fun k => k = w.heap.size) (some ⟨w.heap.size, 0, none⟩) l := Rd.of_at rfl fun i hi => by
  have h : (w.alloc (.cells (l.map B8).toArray t f)).heap[w.heap.size]? = some (.cells (l.map B8).toArray t f) := heap_alloc_new w _
  rw [Nat.zero_add]
  unfold World.cell?
  simp only [h]
  simp [hi]
/-- The blocks of Block. -/
structure BkI (w : World) (key nonce : List UInt8) (s : List UInt32) (wx : World) : Prop where
  k : ArrB wx w.heap.size 29 key
  n : ArrB wx (w.heap.size + 1) 95 nonce
  o : ArrB wx (w.heap.size + 2) 141 (List.replicate 64 0)
  s : ArrU wx (w.heap.size + 3) 253 s
  b : Below w.heap.size w wx
theorem BkI.below {w wx wy : World} {key nonce : List UInt8} {s : List UInt32} (h : BkI w key nonce s wx) (hb : Below wx.heap.size wx wy) : BkI w key nonce s wy := ⟨h.k.below hb, h.n.below hb, h.o.below hb, h.s.below hb, h.b.trans (hb.mono h.b.size)⟩
theorem BkI.row {w wx wy : World} {key nonce : List UInt8} {s : List UInt32} {g : Nat} (h : BkI w key nonce s wx) (ho : Only (· = g) wx wy) (hg : w.heap.size + 4 ≤ g) : BkI w key nonce s wy :=
  ⟨h.k.only ho (by omega), h.n.only ho (by omega), h.o.only ho (by omega), h.s.only ho (by omega), below_only h.b h.b.size ho (fun k hk e => by omega)⟩
theorem BkI.first (w : World) (key nonce : List UInt8) : BkI w key nonce (List.replicate 16 0) ((((w.alloc (.cells (key.map B8).toArray 29)).alloc (.cells (nonce.map B8).toArray 95)).alloc (.cells ((List.replicate 64 (0 : UInt8)).map B8).toArray 141)).alloc (.cells ((List.replicate 16 (0 : UInt32)).map U).toArray 253)) := by
  have h1 := ArrB.new w 29 key
  have h2 := ArrB.new (w.alloc (.cells (key.map B8).toArray 29)) 95 nonce
  have h3 := ArrB.new ((w.alloc (.cells (key.map B8).toArray 29)).alloc (.cells (nonce.map B8).toArray 95)) 141 (List.replicate 64 0)
  have h4 := ArrU.new (((w.alloc (.cells (key.map B8).toArray 29)).alloc (.cells (nonce.map B8).toArray 95)).alloc (.cells ((List.replicate 64 (0 : UInt8)).map B8).toArray 141)) 253 (List.replicate 16 0)
  simp only [World.size_alloc] at h2 h3 h4
  have b : ∀ (w : World) o, Below w.heap.size w (w.alloc o) := fun w o => (Below.refl _ _).alloc (Nat.le_refl _) _
  exact ⟨((h1.below (b _ _)).below (b _ _)).below (b _ _), (h2.below (b _ _)).below (b _ _), h3.below (b _ _), h4, ((((Below.refl _ w).alloc (Nat.le_refl _) _).alloc (by simp) _).alloc (by simp; omega) _).alloc (by simp; omega) _⟩
theorem Tryz.infoS16 : (Tryz.prog.info? 253).map (·.size) = some 16 := by kernel_rfl
theorem Tryz.infoB64 : (Tryz.prog.info? 141).map (·.size) = some 64 := by kernel_rfl
theorem BkI.set {w wx wy : World} {key nonce : List UInt8} {s s' : List UInt32} (h : BkI w key nonce s wx) (ho : Only (· = w.heap.size + 3) wx wy) (hs : ArrU wy (w.heap.size + 3) 253 s') : BkI w key nonce s' wy :=
  ⟨h.k.only ho (by omega), h.n.only ho (by omega), h.o.only ho (by omega), hs, below_only h.b h.b.size ho (fun k hk e => by omega)⟩
/-- At the head of the mixing. -/
def MkRel (w : World) (key nonce : List UInt8) (S : List UInt32) (B : Nat) (v : Value) (wr : World) : Prop := ∃ i : Nat, v = .int .i64 (i : Int) ∧ i ≤ 10 ∧ BkI w key nonce (mixK S i) wr ∧ ArrU wr B 253 S
/-- At the head of the loop over the bytes. -/
def OcRel (wo : World) (s t : List UInt32) (v : Value) (wr : World) : Prop := ∃ i : Nat, v = .int .i64 (i : Int) ∧ i ≤ 64 ∧ ArrB wr wo.heap.size 141 (outC s t i) ∧ Below wo.heap.size wo wr
theorem step_convert {P : Program} {ops : Array Oper} {w : World} {o : Oper} {a : Act} {K : Act → World → Prop} {Q : Exit → Act → World → Prop} {E : Prop} (hgd : o.guard = none) (x : Operand) {t u : TypeId}
    (ho : o.op = .convert t u x) (vx : Value) (hx : a.eval x = vx) {v : Value} {w' : World} (hr : (convert t u vx).run P w = .ok v w') (h : K (a.put o.dst v) w') :
    if Region.wanted o (yielded ops a.tmps) = true then Oper.wp P o a w K Q else E := by
  have hw : Region.wanted o (yielded ops a.tmps) = true := by simp [Region.wanted, hgd]
  rw [if_pos hw]
  unfold Oper.wp
  simp [execOp, ho, hx, hr, Result.andThen]
  exact h
/-- What Block tells. -/
def BlockR (w : World) (key : List UInt8) (count : UInt32) (nonce : List UInt8) (e : Ending) (w' : World) : Prop := e = .returned (.agg ((blockF key count nonce).map B8).toArray) ∧ Below w.heap.size w w'
set_option maxHeartbeats 8000000 in
theorem block_c (key : List UInt8) (count : UInt32) (nonce : List UInt8) (w : World) (hk : key.length = 32) (hn : nonce.length = 12) :
    Calls Tryz.prog 144 #[.agg (key.map B8).toArray, U count, .agg (nonce.map B8).toArray] w (BlockR w key count nonce) := by
  have hkz : ((key.map B8).toArray).size = 32 := by simp [hk]
  have hnz : ((nonce.map B8).toArray).size = 12 := by simp [hn]
  go_enter Tryz.func144, Tryz.ntmps144
  go_upto_region 2 with (fail)
  refine wp_world (BkI w key nonce (List.replicate 16 0)) (BkI.first w key nonce) ?_
  intro W0 hI0
  have I0 := Lib.hid hI0
  clear hI0
  have hR0 : ∀ {wx : World}, Below W0.heap.size W0 wx → Rd wx (fun k => k = w.heap.size) (some ⟨w.heap.size, 0, none⟩) key := fun hb => ArrB.rd (I0.out.k.below hb)
  have hltk := I0.out.k.lt
  refine wp_region_tail (S := fun wx => Below W0.heap.size W0 wx) (n := 6) (by kernel_rfl) (by decide) ?_
  try simp only [List.drop_succ_cons, List.drop_zero]
  obtain ⟨u0, hu0⟩ : ∃ u, u = W0.drew := ⟨_, rfl⟩
  have hS : Below W0.heap.size W0 u0 := by rw [hu0]; exact (Below.refl _ _).drew
  have hsu : u0.heap.size = W0.heap.size := by rw [hu0]; rfl
  rw [← hu0]
  clear hu0
  try simp only [Act.put]
  refine wpAnyT_take (i := 3) (oi := _) (v := .slice (some ⟨w.heap.size, 0, none⟩) 32 32) rfl (by kernel_rfl) (fun _ _ _ h => h) (by kernel_rfl) (fun wq hq => by go_simp) hS ?_
  try simp only [List.getElem_toArray, List.getElem_cons_succ, List.getElem_cons_zero, Act.put, List.setIfInBounds_toArray, List.set_cons_zero, List.set_cons_succ]
  refine wpAnyT_ready (rs := [0]) (by kernel_rfl) (by simp) ?_
  refine AllReadyT.cons rfl (by decide) (fun K hC => ?_) AllReadyT.nil
  have hbB : Below W0.heap.size W0 (u0.alloc (.cells (sayB.map B8).toArray 5)) := hS.alloc (by omega) _
  have HS := Lib.hid (And.intro hsu hS)
  clear hsu hS
  go_simp
  go_wp2
  refine hC.out _ _ hbB ?_
  clear hC K
  try simp only [List.getElem_toArray, List.getElem_cons_succ, List.getElem_cons_zero, Act.put, List.setIfInBounds_toArray, List.set_cons_zero, List.set_cons_succ]
  change wpAnyT _ _ _ _ _ _ _ _ _ _ (u0.alloc (.cells (sayB.map B8).toArray 5))
  have cvu := Lib.run_convert_bytes_const (P := Tryz.prog) u0 38 5 (sayB.map B8).toArray 16 16 Tryz.underlying38 Tryz.underlying5
  have hmk := rd_marked u0 5 sayB (((sayB.map B8).toArray).size, ((sayB.map B8).toArray).size + 1)
  have hbM : Below W0.heap.size W0 (u0.alloc (.cells (sayB.map B8).toArray 5 (((sayB.map B8).toArray).size, ((sayB.map B8).toArray).size + 1))) := HS.out.2.alloc (by rw [HS.out.1]; exact Nat.le_refl _) _
  have hlt1 : u0.heap.size < (u0.alloc (.cells (sayB.map B8).toArray 5 (((sayB.map B8).toArray).size, ((sayB.map B8).toArray).size + 1))).heap.size := by rw [World.size_alloc]; omega
  generalize u0.alloc (.cells (sayB.map B8).toArray 5 (((sayB.map B8).toArray).size, ((sayB.map B8).toArray).size + 1)) = uM at *
  generalize u0.alloc (.cells (sayB.map B8).toArray 5) = uA at *
  have hu0W : W0.heap.size ≤ u0.heap.size := by rw [HS.out.1]; exact Nat.le_refl _
  generalize u0.heap.size = gS at *
  refine wpAnyT_ready (rs := [1]) (by kernel_rfl) (by simp) ?_
  refine AllReadyT.cons rfl (by decide) (fun K hC => ?_) AllReadyT.nil
  refine step_convert rfl (.tmp 12) rfl _ rfl cvu ?_
  refine hC.out _ _ hbM ?_
  clear hC K cvu hbB
  try simp only [List.getElem_toArray, List.getElem_cons_succ, List.getElem_cons_zero, Act.put, List.setIfInBounds_toArray, List.set_cons_zero, List.set_cons_succ]
  refine wpAnyT_ready (rs := [2]) (by kernel_rfl) (by simp) ?_
  refine AllReadyT.cons rfl (by decide) (fun K hC => ?_) AllReadyT.nil
  go_simp
  go_wp2_with (go_at_call 161; apply Calls.mono; (· (with_reducible refine words_c (fun k => k = gS) gS 0 16 16 sayB _ ?_ ?_ rfl (by decide) (by decide) (by decide) (by decide) (by decide)); (· exact hmk); (· exact hlt1)); rintro e wz ⟨g1, c1, rfl, r1, k1, hC1⟩)
  have hb1 := hbM
  have hSz := hb1.trans (hC1.mono hb1.size)
  refine hC.out _ _ hSz ?_
  clear hC K
  try simp only [List.getElem_toArray, List.getElem_cons_succ, List.getElem_cons_zero, Act.put, List.setIfInBounds_toArray, List.set_cons_zero, List.set_cons_succ]
  refine wpAnyT_ready (rs := [4]) (by kernel_rfl) (by simp) ?_
  refine AllReadyT.cons rfl (by decide) (fun K hC => ?_) AllReadyT.nil
  go_simp
  go_wp2_with (go_at_call 161; apply Calls.mono; (· (with_reducible refine words_c (fun k => k = w.heap.size) w.heap.size 0 32 32 key _ ?_ ?_ hk (by decide) (by decide) (by decide) (by decide) (by decide)); (· exact (hR0 hb1).below hC1); (· have := hSz.size; omega)); rintro e wy ⟨g2, c2, rfl, r2, k2, hC2⟩)
  have hSy := hSz.trans (hC2.mono hSz.size)
  refine hC.out _ _ hSy ?_
  clear hC K
  try simp only [List.getElem_toArray, List.getElem_cons_succ, List.getElem_cons_zero, Act.put, List.setIfInBounds_toArray, List.set_cons_zero, List.set_cons_succ]
  refine wpAnyT_ready (rs := [5]) (by kernel_rfl) (by simp) ?_
  refine AllReadyT.cons rfl (by decide) (fun K hC => ?_) AllReadyT.nil
  refine step_appU rfl (.tmp 14) (.tmp 16) rfl (r1.below hC2) rfl (by decide) ⟨g2, 0, none⟩ _ c2 (wordsF key) rfl rfl r2.cells (by rw [wordsF_len, wordsF_len, hk]; decide) ?_
  intro g3 c3 w3 r3 hg3 hO3
  refine hC.out _ _ (below_only hSy hSy.size hO3 (fun k hk e => by have := hbM.size; omega)) ?_
  clear hC K
  try simp only [List.getElem_toArray, List.getElem_cons_succ, List.getElem_cons_zero, Act.put, List.setIfInBounds_toArray, List.set_cons_zero, List.set_cons_succ]
  refine wpAnyT_tail (by kernel_rfl) ?_
  try simp only [List.getElem_toArray, List.getElem_cons_succ, List.getElem_cons_zero, Act.put, List.setIfInBounds_toArray, List.set_cons_zero, List.set_cons_succ]
  have e12 : (wordsF sayB).length + (wordsF key).length = 12 := by rw [wordsF_len, wordsF_len, hk]; rfl
  rw [e12] at r3 ⊢
  have hsz0 : w.heap.size + 4 ≤ W0.heap.size := by have := I0.out.s.lt; omega
  have hg1 : W0.heap.size ≤ g1 := by have := hb1.size; omega
  have hI3 := (((I0.out.below hb1).below hC1).below hC2).row hO3 (by omega)
  have hg3' : w.heap.size + 4 ≤ g3 := by have := hb1.size; have := hC1.size; have := hC2.size; omega
  have hw3 := hO3.size
  have I3 := Lib.hid (And.intro hI3 (And.intro r3 hg3'))
  clear hI3 r3 hg3' hO3 hg3 r2 r1 hC2 hC1 k2 k1 hmk hlt1 hb1 hltk e12 hR0 hg1 hSz hSy hbM hu0W HS
  go_upto_region 3 with (fail)
  obtain ⟨L, hL⟩ : ∃ L, L = wordsF sayB ++ wordsF key := ⟨_, rfl⟩
  rw [← hL] at I3
  have hLl : L.length = 12 := I3.out.2.1.len
  have HL := Lib.hid hL
  clear hL
  have hb5 : Below w3.heap.size w3 (w3.alloc (.cells #[U count] 173)).drew := ((Below.refl _ _).alloc (Nat.le_refl _) _).drew
  have hcnt : ∀ j u, ([count].map U)[j]? = some u → (w3.alloc (.cells #[U count] 173)).drew.cell? ((⟨w3.heap.size, 0, none⟩ : Addr).add j) = some u := cell_one_new w3 (U count) 173
  go_region_held3 (fun w' => True) (trivial) (first
    | (have hq := r6; refine step_copy_splice rfl (.tmp 18) (.tmp 25) 192 192 rfl 173 Tryz.underlying192 (by kernel_rfl) _ _ _ _ _ _ rfl rfl (w.heap.size + 3) 0 ((List.replicate 16 (0 : UInt32)).map U) 253 I6.out.s ((L ++ [count] ++ wordsF nonce).map U) (by rw [List.length_map, r6.len, wordsF_len, hn]; rfl) (fun _ => ⟨rfl, _, rfl, r6.cells⟩) (by rw [List.length_map, List.length_map, r6.len, wordsF_len, hn]; exact Nat.le_refl _) (u_ones _) (w.heap.size + 3) w6 (Below.refl _ _) (Nat.le_refl _) ?_; intro w7 hg7 hb7)
    | (have hq := r5; refine step_appU rfl _ _ rfl (r4.below hC5) rfl (by decide) ⟨g5, 0, none⟩ _ c5 (wordsF nonce) rfl rfl r5.cells (by rw [wordsF_len, hn]; decide) ?_; intro g6 c6 w6 r6 hg6 hO6; have I6 := Lib.hid ((I4.out.below hC5).row hO6 hz4))
    | (refine step_appU rfl _ _ rfl (I3.out.2.1.below hb5) rfl (by decide) ⟨w3.heap.size, 0, none⟩ 1 1 [count] rfl rfl hcnt (by decide) ?_; intro g4 c4 w4 r4 hg4 hO4; have I4 := Lib.hid ((I3.out.1.below hb5).row hO4 I3.out.2.2); have hz4 : w.heap.size + 4 ≤ g4 := (by rcases hg4 with h | h; (· rw [h]; exact I3.out.2.2); (· have := hb5.size; have := I3.out.1.s.lt; rw [h]; omega)))
    | (go_at_call 161; refine (words_c (fun k => k = w.heap.size + 1) (w.heap.size + 1) 0 12 12 nonce _ (ArrB.rd I4.out.n) I4.out.n.lt hn (by decide) (by decide) (by decide) (by decide) (by decide)).mono ?_; rintro e w5 ⟨g5, c5, rfl, r5, k5, hC5⟩))
  have hS7 : ArrU w7 (w.heap.size + 3) 253 (initF key count nonce) := by
    have h := hg7.out
    have hlen : ((L ++ [count] ++ wordsF nonce).map U).length = 16 := by rw [List.length_map, r6.len, wordsF_len, hn]
    have e : splice ((List.replicate 16 (0 : UInt32)).map U) 0 ((L ++ [count] ++ wordsF nonce).map U) = (initF key count nonce).map U := by
      unfold splice
      rw [hlen]
      rw [List.drop_eq_nil_of_le (by simp)]
      simp only [List.take_zero, List.nil_append, List.append_nil]
      rw [HL.out]
      rfl
    rw [e] at h
    exact h
  have hO7 := Only.of_belowN hb7
  have I7 := Lib.hid (show BkI w key nonce (initF key count nonce) w7 from ⟨I6.out.k.only hO7 (by omega), I6.out.n.only hO7 (by omega), I6.out.o.only hO7 (by omega), hS7, below_only I6.out.b I6.out.b.size hO7 (fun k hk e => by omega)⟩)
  have hl16 := initF_len key count nonce hk hn
  clear hS7 hO7 hg7 hb7 r6 r5 r4 hC5 hO6 hO4 hg4 hg6 k5 hz4 I4 I6 I3 hb5 hcnt HL hLl hw3 hsz0
  go_upto_region 4 with (fail)
  obtain ⟨S, hS⟩ : ∃ S, S = initF key count nonce := ⟨_, rfl⟩
  rw [← hS] at I7 hl16
  have HS := Lib.hid (And.intro hS hl16)
  clear hS
  go_upto_region 5 with (first
    | (refine ld_arrU rfl 253 (.tmp 7) rfl (w.heap.size + 3) rfl 253 S I7.out.s _ _ Tryz.underlying253 (by rw [hl16]; exact Tryz.infoS16) ?_)
    | (refine st_arrU rfl 253 (.tmp 9) (.tmp 27) rfl w7.heap.size S rfl rfl 253 (List.replicate 16 0) (ArrU.new w7 253 (List.replicate 16 0)) (by rw [hl16]; exact Tryz.infoS16) (by rw [hl16]; rfl) ?_; intro w8 hA8 hO8))
  have hb8 : Below w7.heap.size w7 w8 := below_only ((Below.refl _ _).alloc (Nat.le_refl _) _) (by rw [World.size_alloc]; omega) hO8 (fun k hk e => by omega)
  have I8 := Lib.hid (And.intro (I7.out.below hb8) hA8)
  have hB4 : w.heap.size + 4 ≤ w7.heap.size := by have := I7.out.s.lt; omega
  generalize w7.heap.size = B at *
  clear hb8 hO8 hA8 I7 hl16
  go_wp2
  go_loopw [28] (fun v wr => MkRel w key nonce S B v wr) (fun v _ => (10 - intOf v).toNat)
  case atStart => exact ⟨0, rfl, by omega, I8.out.1, I8.out.2⟩
  case round =>
    obtain ⟨i, rfl, hi, hI, hA⟩ := hrel
    have J := Lib.hid (And.intro hI hA)
    clear hI hA
    by_cases hlt : i < 10
    · have hl : (i : Int) < 10 := by omega
      go_wp2_with (go_at_call 162; refine (mix_state (w.heap.size + 3) (mixK S i) wr J.out.1.s (by rw [mixK_len]; exact HS.out.2)).mono ?_; rintro en w9 ⟨rfl, hA9, hO9⟩; have J9 := Lib.hid (And.intro (J.out.1.set hO9 hA9) (J.out.2.only hO9 (by omega))); clear hA9 hO9)
      refine ⟨⟨i + 1, by simp, by omega, J9.out.1, J9.out.2⟩, by simp [intOf]; omega⟩
    · have hn10 : ¬ (i : Int) < 10 := by omega
      obtain ⟨s, hs⟩ : ∃ s, s = mixK S 10 := ⟨_, rfl⟩
      have hJ : BkI w key nonce s wr := by have := J.out.1; rw [show i = 10 by omega] at this; rw [hs]; exact this
      have hsl : s.length = 16 := by rw [hs, mixK_len]; exact HS.out.2
      have HSS := Lib.hid (And.intro hs (And.intro hsl (And.intro hJ J.out.2)))
      clear hs hsl hJ J
      obtain ⟨wo, rfl⟩ : ∃ wo : World, wo = wr := ⟨_, rfl⟩
      have h01 : OcRel wo s S (.int .i64 0) (wo.alloc (.cells ((List.replicate 64 (0 : UInt8)).map B8).toArray 141)) := ⟨0, rfl, by omega, ArrB.new _ _ _, (Below.refl _ _).alloc (Nat.le_refl _) _⟩
      have H01 := Lib.hid h01
      clear h01
      have cv := cvU8
      go_wp2
      go_loopw [32] (fun v wx => OcRel wo s S v wx) (fun v _ => (64 - intOf v).toNat)
      case atStart => exact H01.out
      case round =>
        obtain ⟨i, rfl, hi, hA, hB⟩ := hrel
        have HB := Lib.hid (And.intro hA hB)
        have hszx := hB.size
        by_cases hlt : i < 64
        · have hol := outC_len s S i
          have hsl := HSS.out.2.1
          have hSl := HS.out.2
          have c1 := (HSS.out.2.2.1.s.below hB).g (i / 4) (by omega)
          have c3 := (HSS.out.2.2.2.below hB).g (i / 4) (by omega)
          have c2 := hA.c i (by rw [hol]; exact hlt)
          have f2 := hA.fr i
          obtain ⟨X, hX⟩ : ∃ x, x = s.getD (i / 4) 0 := ⟨_, rfl⟩
          rw [← hX] at c1
          obtain ⟨Z, hZ⟩ : ∃ x, x = S.getD (i / 4) 0 := ⟨_, rfl⟩
          rw [← hZ] at c3
          obtain ⟨Y, hY⟩ : ∃ x, x = (outC s S i)[i]'(by rw [hol]; exact hlt) := ⟨_, rfl⟩
          rw [← hY] at c2
          have hst : outC s S (i + 1) = (outC s S i).set i (low8 (shr32 (X + Z) (8 * (i % 4)))) := by
            rw [hX, hZ]
            rfl
          have HST := Lib.hid hst
          have hsh := fun (w : World) => U_shr (P := Tryz.prog) (w := w) (t := 173) (x := X + Z) .i64 (8 * ((i : Int) % 4)) (by omega)
          rw [show (8 * ((i : Int) % 4)).toNat = 8 * (i % 4) by omega] at hsh
          have hti : ((i : Int) / 4).toNat = i / 4 := by omega
          have hlI : (i : Int) < 64 := by omega
          have hi0 : (0 : Int) ≤ (i : Int) := by omega
          have hq4 : (i : Int) / 4 < 16 := by omega
          have hq0 : (0 : Int) ≤ (i : Int) / 4 := by omega
          clear hst hX hY hZ hol hA hB hsl hSl
          go_upto_region 13 with (fail)
          go_region
          go_wp2
          refine ⟨⟨i + 1, by simp, by omega, by rw [HST.out]; exact HB.out.1.set i _, (HB.out.2.setCell (p := ⟨wo.heap.size, i, none⟩) (Nat.le_refl _) _).drew⟩, by simp [intOf]; omega⟩
        · obtain rfl : i = 64 := by omega
          have hol := outC_len s S 64
          have HO2 := Lib.hid (And.intro (HSS.out.2.2.1.o.below hB) hol)
          have hsr : w.heap.size + 2 < wo.heap.size := HSS.out.2.2.1.o.lt
          have hge : ¬ ((64 : Nat) : Int) < 64 := by omega
          clear hA hB hol
          go_upto_region 15 with (fail)
          go_wp2_with (first
            | (refine ld_arrB rfl 141 (.tmp 10) rfl wo.heap.size rfl _ _ HB.out.1 _ _ Tryz.underlying141 (by rw [HO2.out.2]; exact Tryz.infoB64) ?_)
            | (refine st_arrB rfl 141 (.tmp 6) _ rfl (w.heap.size + 2) _ rfl rfl _ _ HO2.out.1 (by rw [HO2.out.2]; exact Tryz.infoB64) (by rw [HO2.out.2]; simp) ?_; intro wz hA7 hO7))
          refine bodyPost_ret (v := .agg ((outC s S 64).map B8).toArray) (results_cell_row (P := Tryz.prog) Tryz.results144 _ _ (w.heap.size + 2) _ _ _ _ rfl hA7 Tryz.underlying141 rfl (by rw [Tryz.infoB64]; simp [HO2.out.2])) rfl (And.intro ?_ ?_)
          · rw [HSS.out.1, HS.out.1]
            rfl
          · have h2 := HSS.out.2.2.1.b.trans (HB.out.2.mono HSS.out.2.2.1.b.size)
            exact below_only h2 h2.size hO7 (by intro k hk e; omega)
end Go.Proofs.YtolgaapiedbkfaaGreat
