/-
  The contract of journal's put. Conditions: those of the theorem.
-/
import Derived.Test.YtolgaapiedbkfaaGreatZg9
import Derived.Test.YtolgaapiedbkfaaGreatZChaD
import Derived.Deep.CutRange
namespace Go.Proofs.YtolgaapiedbkfaaGreat
open Go.RowKit Go.Kx Go.Shelf
set_option linter.unusedVariables false
set_option linter.unusedSimpArgs false
set_option maxRecDepth 100000
attribute [local go_sem] Oper.semAt_some
def noPan (Q : Exit → Act → World → Prop) : Exit → Act → World → Prop
  | .panic _, _, _ => False
  | .outgrown, _, _ => False
  | .normal, a, w => Q .normal a w
  | .ret, a, w => Q .ret a w
  | .exit k, a, w => Q (.exit k) a w
  | .goto k, a, w => Q (.goto k) a w
theorem wp_noPan {P : Program} {c : Code} {Q : Exit → Act → World → Prop} {a : Act} {w : World} (h : c.wp P (noPan Q) a w) : c.wp P Q a w := fun b k cs => by
  obtain ⟨e, a', w', hq, hr⟩ := h b k cs
  refine ⟨e, a', w', ?_, hr⟩
  cases e <;> first | exact hq | exact hq.elim
theorem sectors_1 (num : Nat) (T : Nat → Prop) (q : Addr) (m k : Nat) (b : List UInt8) (w : World) (hR : Rd w T (some q) b) (hm : b.length = m) (h1 : 1 ≤ m) (hl : m ≤ 10000) (h46 : (18 + m) % 64 ≠ 0) (hnum : num ≤ 1000000) :
    Calls Tryz.prog 129 #[.int .u64 1, .int .i64 (num : Int), .slice (some q) m k] w (NewOB w (secsF 1 num b)) := sectors_c 1 num T q m k b w hR hm h1 hl h46 hnum
theorem chunk_64 (a : Option Addr) (len cap : Nat) (w : World) : Calls Tryz.prog 128 #[.slice a len cap, .int .i64 64] w fun e w' => e = .returned (.func (.func 155) #[] #[rp w.heap.size, rp (w.heap.size + 1)]) ∧ w' = (w.alloc (.cells #[.slice a len cap] 38)).alloc (.cells #[.int .i64 64] 3) :=
  callsIn_wide.1 (chunk_in Fence.wide 1 trivial rfl a len cap 64 (by decide) w)
/-- The disk's bytes when some parts were written behind one another. -/
def wrK (L S : List UInt8) (at' : Nat) (xs : List Nat) : List UInt8 := xs.zipIdx.foldl (fun L z => wrF L (at' + z.2) ((S.drop (64 * z.1)).take 64)) L
theorem wrK_snoc (L S : List UInt8) (at' : Nat) (xs : List Nat) (x : Nat) : wrK L S at' (xs ++ [x]) = wrF (wrK L S at' xs) (at' + xs.length) ((S.drop (64 * x)).take 64) := by
  unfold wrK
  rw [List.zipIdx_append, List.foldl_append]
  simp
theorem splice_more (L A B : List UInt8) (o : Nat) (h : o + A.length + B.length ≤ L.length) : splice (splice L o A) (o + A.length) B = splice L o (A ++ B) := by
  unfold splice
  have h1 : (L.take o).length = o := by rw [List.length_take]; omega
  have h2 : (L.take o ++ A).length = o + A.length := by rw [List.length_append, h1]
  have e1 : (L.take o ++ (A ++ L.drop (o + A.length))).take (o + A.length) = L.take o ++ A := by
    rw [← List.append_assoc]
    exact List.take_left' h2
  have e2 : (L.take o ++ (A ++ L.drop (o + A.length))).drop (o + A.length + B.length) = L.drop (o + (A ++ B).length) := by
    rw [← List.append_assoc, List.drop_append, h2, List.drop_eq_nil_of_le (by omega), List.nil_append, List.drop_drop, List.length_append]
    congr 1
    omega
  rw [e1, e2]
  simp
theorem wrK_range (L S : List UInt8) (at' N : Nat) (hS : S.length = 64 * N) (hL : (at' + N) * 64 ≤ L.length) : ∀ m, m ≤ N → wrK L S at' (List.range m) = splice L (at' * 64) (S.take (64 * m))
  | 0, _ => by simp [wrK, splice]
  | m + 1, h => by
    rw [List.range_succ, wrK_snoc, wrK_range L S at' N hS hL m (by omega), List.length_range, wrF, ← take_more S m]
    have h1 : (S.take (64 * m)).length = 64 * m := by rw [List.length_take]; omega
    have h2 : ((S.drop (64 * m)).take 64).length = 64 := by rw [List.length_take, List.length_drop]; omega
    have e := splice_more L (S.take (64 * m)) ((S.drop (64 * m)).take 64) (at' * 64) (by rw [h1, h2]; omega)
    rw [h1] at e
    rw [← e]
    congr 1
    omega
/-- What holds when some parts have been written. -/
def PuP (w4 : World) (r g n k Ba at' N : Nat) (L S : List UInt8) (pre : List (PartOf 64 (64 * N))) (W : World) : Prop :=
  Boxed W Ba 3 (.int .i64 ((at' + pre.length : Nat) : Int)) ∧ DiskI W r g n (k + pre.length) (wrK L S at' (pre.map Subtype.val)) ∧ Only (fun x => x = r ∨ x = g ∨ x = Ba) w4 W
theorem PuP.own {w4 : World} {r g n k Ba at' N B : Nat} {L S : List UInt8} (hB : w4.heap.size ≤ B) (h1 : r < B) (h2 : g < B) (h3 : Ba < B) : OwnFrom B (PuP w4 r g n k Ba at' N L S) := fun s W W' row h hgr hrow =>
  ⟨boxed_only h.1 (Only.of_grown hgr) (fun hk => by have := (hrow _ hk.symm).1; omega), h.2.1.only (Only.of_grown hgr) (fun hk => by have := (hrow _ hk.symm).1; omega) (fun hk => by have := (hrow _ hk.symm).1; omega),
    h.2.2.trans (Only.of_grown hgr) (fun _ h => h) (fun x hx hk => by have := (hrow _ hk.symm).1; omega)⟩
theorem results_c1 {fn : Func} (p : Tmp) (h : fn.results = #[.cell p 23]) (tmps : Array Value) (w : World) (g : Nat) (x : Int) (hp : tmps.getD p undef = .pointer (some ⟨g, 0, none⟩)) (hc : w.cell? ⟨g, 0, none⟩ = some (.int .i64 x)) :
    (results fn tmps).run Tryz.prog w = .ok (.int .i64 x) w := by
  have hp' : tmps[p]?.getD undef = .pointer (some ⟨g, 0, none⟩) := by simpa using hp
  have hu := Tryz.underlying23
  simp [results, h, hp', asAddr, loadVar, hc, run_underlying hu]
theorem RwI.low {w : World} {P : Nat → Prop} {v : Value} {E : List (List UInt8)} (h : RwI w P v E) : RwI w (fun x => P x ∧ x < w.heap.size) v E := by
  obtain ⟨⟨xs, h1, h2⟩, h3⟩ := h
  exact ⟨⟨xs, h1, h2.keep (Only.refl (fun _ => False) w) (fun _ _ h => h) (fun k hk h => ⟨⟨h.1, hk⟩, h.2⟩)⟩, fun b hb => ⟨h3 b hb, (h3 b hb).2⟩⟩
theorem step_rows {w : World} {ops : Array Oper} {o : Oper} {a : Act} {K : Act → World → Prop} {Q : Exit → Act → World → Prop} {Z : Prop} (hgd : o.guard = none) (s x : Operand)
    (ho : o.op = .call { callee := .builtin .append, args := #[s, x], argTypes := #[31, 31] }) {P : Nat → Prop} (P' : Nat → Prop) {v : Value} {E : List (List UInt8)} {b : List UInt8} {q : Addr} {c : Nat} {ad k : Nat} (hs : a.eval s = v) (hx' : a.eval x = .slice (some ⟨ad, 0, none⟩) 1 k) (h : RwI w P v E) (hx : w.cell? ⟨ad, 0, none⟩ = some (.slice (some q) b.length c))
    (hR : Rd w (fun x => P' x ∧ v.ownBlock ≠ some x) (some q) b) (hc : b.length ≤ c) (hE : E.length ≤ 100000) (hP : ∀ x, P x → P' x) (hN : P' w.heap.size)
    (hK : ∀ p' c' w', RwI w' P' (.slice p' (E.length + 1) c') (E ++ [b]) → Only (fun x => v.ownBlock = some x) w w' → K (a.put o.dst (.slice p' (E.length + 1) c')) w') : if Region.wanted o (yielded ops a.tmps) = true then Oper.wp Tryz.prog o a w K Q else Z := by
  obtain ⟨p', c', w', hr, h1, h2⟩ := h.app o.type hx hR hc hE hP hN (k := k)
  have hw : Region.wanted o (yielded ops a.tmps) = true := by simp [Region.wanted, hgd]
  rw [if_pos hw]
  exact wp_append_run w s x 31 ho v _ hs hx' hr (hK p' c' w' h1 h2)
/-- What put tells. -/
def PutR (w : World) (P : Nat → Prop) (j r g n k : Nat) (L : List UInt8) (E : List (List UInt8)) (used : Nat) (b : List UInt8) (e : Ending) (w' : World) : Prop :=
  e = .returned (.int .i64 0) ∧ JI w' (fun x => P x ∨ w.heap.size ≤ x) j r g n (k + needF b.length) (splice L ((2 + used) * 64) (secsF 1 E.length b)) (E ++ [b]) (used + needF b.length) ∧ Only (fun x => P x ∨ x = j ∨ x = r ∨ x = g) w w'
set_option maxHeartbeats 16000000 in
theorem put_c (P : Nat → Prop) (j r g n k used M N c : Nat) (L : List UInt8) (E : List (List UInt8)) (T : Nat → Prop) (q : Addr) (b : List UInt8) (w : World) (hJ : JI w P j r g n k L E used) (h4 : 4 ≤ n) (hb : Rd w T (some q) b) (hT : ∀ x, T x → x ≠ j ∧ x ≠ r ∧ x ≠ g) (hc : M ≤ c) (hM : b.length = M) (hN : needF M = N) (h1 : 1 ≤ M) (h2 : M ≤ 4096) (h46 : (18 + M) % 64 ≠ 0) (hu : used + N ≤ areaF n) (hE : E.length ≤ 1000) (hk : k ≤ 1000) :
    Calls Tryz.prog 84 #[rp j, .slice (some q) M c, .int .i64 0] w (PutR w P j r g n k L E used b) := by
  have hA : areaF n ≤ 512 ∧ 2 + areaF n ≤ n := by have := hJ.d.n0; unfold areaF; omega
  obtain ⟨⟨p, cp, hblk, hrow⟩, hD, hne, hnp⟩ := hJ
  have H := Lib.hid (And.intro hblk (And.intro hrow (And.intro hD (And.intro hne (And.intro hnp (And.intro hb (And.intro hT (And.intro hM (And.intro hN (And.intro hE (And.intro hk h46)))))))))))
  clear hblk hrow hD hne hnp hb hT hM hN hE hk h46
  refine (callsIn_wide (n := 9)).1 ?_
  refine callsIn_of_wp_marks Tryz.func84 rfl trivial ?_ rfl
  simp only [Tryz.ntmps84, List.size_toArray, List.length_cons, List.length_nil, Nat.reduceAdd, Nat.reduceSub, Array.replicate_succ, Array.replicate_zero, List.push_toArray, List.append_toArray, List.nil_append, List.cons_append]
  refine wpIn_wide.2 (wp_noPan ?_)
  go_upto_region 1 with (fail)
  refine wp_world (fun W => (Boxed W w.heap.size 48 (rp j) ∧ Boxed W (w.heap.size + 1) 23 (.int .i64 0)) ∧ Below w.heap.size w W ∧ w.heap.size + 2 ≤ W.heap.size) ?_ ?_
  · have b2 := Boxed.new (w.alloc (.cells #[rp j] 48)) 23 (.int .i64 0)
    rw [World.size_alloc] at b2
    exact ⟨⟨(Boxed.new w _ _).alloc _, b2⟩, ((Below.refl _ w).alloc (Nat.le_refl _) _).alloc (by simp) _, by simp⟩
  intro W1 hW1
  have H1 := Lib.hid hW1
  clear hW1
  have hul : used ≤ 512 := by omega
  go_cut [7] from 10 to 20 (fun v7 wx => ∃ Ba, v7 = .pointer (some ⟨Ba, 0, none⟩) ∧ W1.heap.size ≤ Ba ∧ Boxed wx Ba 3 (.int .i64 ((2 + used : Nat) : Int)) ∧ Below W1.heap.size W1 wx)
  case first =>
    have hDw : ∀ {wx : World}, Below W1.heap.size W1 wx → DiskI wx r g n k L := fun hb => (H.out.2.2.1.below H1.out.2.1).below hb
    have hBk : ∀ {wx : World}, Below W1.heap.size W1 wx → Blk wx j 104 (jrV r (.slice p E.length cp) used) := fun hb => (H.out.1.below H1.out.2.1).below hb
    have hBx : ∀ {wx : World}, Below W1.heap.size W1 wx → wx.cell? ⟨w.heap.size, 0, none⟩ = some (rp j) := fun hb => (boxed_only H1.out.1.1 (Only.of_below hb : Only (fun _ => False) W1 _) (fun h => h)).cell
    refine wp_region_tail (S := fun wx => Below W1.heap.size W1 wx) (n := 12) (by kernel_rfl) (by decide) ?_
    try simp only [List.drop_succ_cons, List.drop_zero]
    obtain ⟨u0, hu0⟩ : ∃ u, u = W1.drew := ⟨_, rfl⟩
    have hS : Below W1.heap.size W1 u0 := by rw [hu0]; exact (Below.refl _ _).drew
    rw [← hu0]
    clear hu0
    try simp only [Act.put]
    refine wpAnyT_take (i := 0) (oi := _) (v := (rp j)) rfl (by kernel_rfl) (fun _ _ _ h => h) (by kernel_rfl) (fun wq hq => by have h := hBx hq; go_simp) hS ?_
    try simp only [List.getElem_toArray, List.getElem_cons_succ, List.getElem_cons_zero, Act.put, List.setIfInBounds_toArray, List.set_cons_zero, List.set_cons_succ]
    refine wpAnyT_take (i := 1) (oi := _) (v := (rp j)) rfl (by kernel_rfl) (fun _ _ _ h => h) (by kernel_rfl) (fun wq hq => rfl) hS ?_
    try simp only [List.getElem_toArray, List.getElem_cons_succ, List.getElem_cons_zero, Act.put, List.setIfInBounds_toArray, List.set_cons_zero, List.set_cons_succ]
    refine wpAnyT_take (i := 2) (oi := _) (v := (rp j)) rfl (by kernel_rfl) (fun _ _ _ h => h) (by kernel_rfl) (fun wq hq => by go_simp) hS ?_
    try simp only [List.getElem_toArray, List.getElem_cons_succ, List.getElem_cons_zero, Act.put, List.setIfInBounds_toArray, List.set_cons_zero, List.set_cons_succ]
    refine wpAnyT_take (i := 3) (oi := _) (v := (rp r)) rfl (by kernel_rfl) (fun _ _ _ h => h) (by kernel_rfl) (fun wq hq => by have h : wq.cell? ⟨j, 0, none⟩ = some (rp r) := (hBk hq).c 0; go_simp) hS ?_
    try simp only [List.getElem_toArray, List.getElem_cons_succ, List.getElem_cons_zero, Act.put, List.setIfInBounds_toArray, List.set_cons_zero, List.set_cons_succ]
    refine wpAnyT_take (i := 4) (oi := _) (v := (.int .i64 0)) rfl (by kernel_rfl) (fun _ _ _ h => h) (by kernel_rfl) (fun wq hq => rfl) hS ?_
    try simp only [List.getElem_toArray, List.getElem_cons_succ, List.getElem_cons_zero, Act.put, List.setIfInBounds_toArray, List.set_cons_zero, List.set_cons_succ]
    refine wpAnyT_take (i := 6) (oi := _) (v := (rp j)) rfl (by kernel_rfl) (fun _ _ _ h => h) (by kernel_rfl) (fun wq hq => by have h := hBx hq; go_simp) hS ?_
    try simp only [List.getElem_toArray, List.getElem_cons_succ, List.getElem_cons_zero, Act.put, List.setIfInBounds_toArray, List.set_cons_zero, List.set_cons_succ]
    refine wpAnyT_take (i := 7) (oi := _) (v := (rp j)) rfl (by kernel_rfl) (fun _ _ _ h => h) (by kernel_rfl) (fun wq hq => rfl) hS ?_
    try simp only [List.getElem_toArray, List.getElem_cons_succ, List.getElem_cons_zero, Act.put, List.setIfInBounds_toArray, List.set_cons_zero, List.set_cons_succ]
    refine wpAnyT_take (i := 8) (oi := _) (v := (.pointer (some ⟨j, 4, none⟩))) rfl (by kernel_rfl) (fun _ _ _ h => h) (by kernel_rfl) (fun wq hq => by go_simp) hS ?_
    try simp only [List.getElem_toArray, List.getElem_cons_succ, List.getElem_cons_zero, Act.put, List.setIfInBounds_toArray, List.set_cons_zero, List.set_cons_succ]
    refine wpAnyT_take (i := 9) (oi := _) (v := (.int .i64 (used : Int))) rfl (by kernel_rfl) (fun _ _ _ h => h) (by kernel_rfl) (fun wq hq => by have h : wq.cell? ⟨j, 4, none⟩ = some (.int .i64 (used : Int)) := (hBk hq).c 4; go_simp) hS ?_
    try simp only [List.getElem_toArray, List.getElem_cons_succ, List.getElem_cons_zero, Act.put, List.setIfInBounds_toArray, List.set_cons_zero, List.set_cons_succ]
    refine wpAnyT_ready (rs := [5, 11]) (by kernel_rfl) (by simp) ?_
    refine AllReadyT.cons rfl (by decide) (fun K hC => ?_) (AllReadyT.cons rfl (by decide) (fun K hC => ?_) AllReadyT.nil)
    · go_simp
      go_wp2_with (go_at_call 86; apply Calls.mono; (· (with_reducible refine jFirst_0 r g n k L _ ?_ ?_); (· exact hDw hS); (· omega)); rintro e w3 ⟨rfl, hw⟩; rw [hw]; clear hw w3)
      refine hC.out _ _ hS ?_
      clear hC K
      try simp only [List.getElem_toArray, List.getElem_cons_succ, List.getElem_cons_zero, Act.put, List.setIfInBounds_toArray, List.set_cons_zero, List.set_cons_succ]
      have hsum : IntKind.i64.wrap (2 + (used : Int)) = ((2 + used : Nat) : Int) := by rw [IntWalk.i64_in _ (by omega)]; omega
      refine wpAnyT_take (i := 10) (oi := _) (v := (.int .i64 ((2 + used : Nat) : Int))) rfl (by kernel_rfl) (fun _ _ _ h => h) (by kernel_rfl) (fun wq hq => by go_simp) hS ?_
      try simp only [List.getElem_toArray, List.getElem_cons_succ, List.getElem_cons_zero, Act.put, List.setIfInBounds_toArray, List.set_cons_zero, List.set_cons_succ]
      clear hsum
      refine wpAnyT_ready (rs := [11]) (by kernel_rfl) (by simp) ?_
      refine AllReadyT.cons rfl (by decide) (fun K hC => ?_) AllReadyT.nil
      go_simp
      go_wp2
      refine hC.out _ _ (hS.alloc hS.size _) ?_
      clear hC K
      try simp only [List.getElem_toArray, List.getElem_cons_succ, List.getElem_cons_zero, Act.put, List.setIfInBounds_toArray, List.set_cons_zero, List.set_cons_succ]
      have hBx0 := Boxed.new u0 3 (.int .i64 0)
      have hge := hS.size
      have hS := hS.alloc hS.size (.cells #[.int .i64 0] 3)
      obtain ⟨Ba, hBa⟩ : ∃ B, B = u0.heap.size := ⟨_, rfl⟩
      rw [← hBa] at hBx0 hge ⊢
      obtain ⟨u1, hu1⟩ : ∃ u1, u1 = u0.alloc (.cells #[.int .i64 0] 3) := ⟨_, rfl⟩
      rw [← hu1] at hBx0 hS
      try rw [← hu1]
      clear hu1 hBa
      refine wpAnyT_tail (by kernel_rfl) ?_
      try simp only [List.getElem_toArray, List.getElem_cons_succ, List.getElem_cons_zero, Act.put, List.setIfInBounds_toArray, List.set_cons_zero, List.set_cons_succ]
      have hcb := hBx0.cell
      have hfb := hBx0.frozen
      go_wp2
      go_meet
      exact ⟨Ba, rfl, hge, hBx0.set _, below_only hS hS.size ((Only.refl (fun x => x = Ba) _).setCell _ _ (.inl rfl)) (fun k hk e => by omega)⟩
    · go_simp
      go_wp2
      refine hC.out _ _ (hS.alloc hS.size _) ?_
      clear hC K
      try simp only [List.getElem_toArray, List.getElem_cons_succ, List.getElem_cons_zero, Act.put, List.setIfInBounds_toArray, List.set_cons_zero, List.set_cons_succ]
      have hBx0 := Boxed.new u0 3 (.int .i64 0)
      have hge := hS.size
      have hS := hS.alloc hS.size (.cells #[.int .i64 0] 3)
      obtain ⟨Ba, hBa⟩ : ∃ B, B = u0.heap.size := ⟨_, rfl⟩
      rw [← hBa] at hBx0 hge ⊢
      obtain ⟨u1, hu1⟩ : ∃ u1, u1 = u0.alloc (.cells #[.int .i64 0] 3) := ⟨_, rfl⟩
      rw [← hu1] at hBx0 hS
      try rw [← hu1]
      clear hu1 hBa
      refine wpAnyT_ready (rs := [5]) (by kernel_rfl) (by simp) ?_
      refine AllReadyT.cons rfl (by decide) (fun K hC => ?_) AllReadyT.nil
      go_simp
      go_wp2_with (go_at_call 86; apply Calls.mono; (· (with_reducible refine jFirst_0 r g n k L _ ?_ ?_); (· exact hDw hS); (· omega)); rintro e w3 ⟨rfl, hw⟩; rw [hw]; clear hw w3)
      refine hC.out _ _ hS ?_
      clear hC K
      try simp only [List.getElem_toArray, List.getElem_cons_succ, List.getElem_cons_zero, Act.put, List.setIfInBounds_toArray, List.set_cons_zero, List.set_cons_succ]
      have hsum : IntKind.i64.wrap (2 + (used : Int)) = ((2 + used : Nat) : Int) := by rw [IntWalk.i64_in _ (by omega)]; omega
      refine wpAnyT_take (i := 10) (oi := _) (v := (.int .i64 ((2 + used : Nat) : Int))) rfl (by kernel_rfl) (fun _ _ _ h => h) (by kernel_rfl) (fun wq hq => by go_simp) hS ?_
      try simp only [List.getElem_toArray, List.getElem_cons_succ, List.getElem_cons_zero, Act.put, List.setIfInBounds_toArray, List.set_cons_zero, List.set_cons_succ]
      clear hsum
      refine wpAnyT_tail (by kernel_rfl) ?_
      try simp only [List.getElem_toArray, List.getElem_cons_succ, List.getElem_cons_zero, Act.put, List.setIfInBounds_toArray, List.set_cons_zero, List.set_cons_succ]
      have hcb := hBx0.cell
      have hfb := hBx0.frozen
      go_wp2
      go_meet
      exact ⟨Ba, rfl, hge, hBx0.set _, below_only hS hS.size ((Only.refl (fun x => x = Ba) _).setCell _ _ (.inl rfl)) (fun k hk e => by omega)⟩
  case rest =>
    obtain ⟨Ba, rfl, hge, hbx, hbw⟩ := hcut
    have HC := Lib.hid (And.intro hge (And.intro hbx hbw))
    clear hge hbx hbw
    go_upto_region 2 with (fail)
    have hBk : ∀ {wx : World}, Below wc.heap.size wc wx → Blk wx j 104 (jrV r (.slice p E.length cp) used) := fun hb => ((H.out.1.below H1.out.2.1).below HC.out.2.2).below hb
    have hBx : ∀ {wx : World}, Below wc.heap.size wc wx → wx.cell? ⟨w.heap.size, 0, none⟩ = some (rp j) := fun hb => (boxed_only (boxed_only H1.out.1.1 (Only.of_below HC.out.2.2 : Only (fun _ => False) W1 _) (fun h => h)) (Only.of_below hb : Only (fun _ => False) wc _) (fun h => h)).cell
    refine wp_region_tail (S := fun wx => Below wc.heap.size wc wx) (n := 11) (by kernel_rfl) (by decide) ?_
    try simp only [List.drop_succ_cons, List.drop_zero, List.drop_nil]
    obtain ⟨u0, hu0⟩ : ∃ u, u = wc.drew := ⟨_, rfl⟩
    have hS : Below wc.heap.size wc u0 := by rw [hu0]; exact (Below.refl _ _).drew
    rw [← hu0]
    clear hu0
    try simp only [Act.put]
    refine wpAnyT_take (i := 0) (oi := _) (v := (rp j)) rfl (by kernel_rfl) (fun _ _ _ h => h) (by kernel_rfl) (fun wq hq => by have h := hBx hq; go_simp) hS ?_
    try simp only [List.getElem_toArray, List.getElem_cons_succ, List.getElem_cons_zero, Act.put, List.setIfInBounds_toArray, List.set_cons_zero, List.set_cons_succ]
    refine wpAnyT_take (i := 1) (oi := _) (v := (rp j)) rfl (by kernel_rfl) (fun _ _ _ h => h) (by kernel_rfl) (fun wq hq => rfl) hS ?_
    try simp only [List.getElem_toArray, List.getElem_cons_succ, List.getElem_cons_zero, Act.put, List.setIfInBounds_toArray, List.set_cons_zero, List.set_cons_succ]
    refine wpAnyT_take (i := 2) (oi := _) (v := (.pointer (some ⟨j, 1, none⟩))) rfl (by kernel_rfl) (fun _ _ _ h => h) (by kernel_rfl) (fun wq hq => by go_simp) hS ?_
    try simp only [List.getElem_toArray, List.getElem_cons_succ, List.getElem_cons_zero, Act.put, List.setIfInBounds_toArray, List.set_cons_zero, List.set_cons_succ]
    refine wpAnyT_take (i := 3) (oi := _) (v := (.int .u64 1)) rfl (by kernel_rfl) (fun _ _ _ h => h) (by kernel_rfl) (fun wq hq => by have h : wq.cell? ⟨j, 1, none⟩ = some (.int .u64 1) := (hBk hq).c 1; go_simp) hS ?_
    try simp only [List.getElem_toArray, List.getElem_cons_succ, List.getElem_cons_zero, Act.put, List.setIfInBounds_toArray, List.set_cons_zero, List.set_cons_succ]
    refine wpAnyT_take (i := 4) (oi := _) (v := (rp j)) rfl (by kernel_rfl) (fun _ _ _ h => h) (by kernel_rfl) (fun wq hq => by have h := hBx hq; go_simp) hS ?_
    try simp only [List.getElem_toArray, List.getElem_cons_succ, List.getElem_cons_zero, Act.put, List.setIfInBounds_toArray, List.set_cons_zero, List.set_cons_succ]
    refine wpAnyT_take (i := 5) (oi := _) (v := (rp j)) rfl (by kernel_rfl) (fun _ _ _ h => h) (by kernel_rfl) (fun wq hq => rfl) hS ?_
    try simp only [List.getElem_toArray, List.getElem_cons_succ, List.getElem_cons_zero, Act.put, List.setIfInBounds_toArray, List.set_cons_zero, List.set_cons_succ]
    refine wpAnyT_take (i := 6) (oi := _) (v := (.pointer (some ⟨j, 3, none⟩))) rfl (by kernel_rfl) (fun _ _ _ h => h) (by kernel_rfl) (fun wq hq => by go_simp) hS ?_
    try simp only [List.getElem_toArray, List.getElem_cons_succ, List.getElem_cons_zero, Act.put, List.setIfInBounds_toArray, List.set_cons_zero, List.set_cons_succ]
    refine wpAnyT_take (i := 7) (oi := _) (v := (.slice p E.length cp)) rfl (by kernel_rfl) (fun _ _ _ h => h) (by kernel_rfl) (fun wq hq => by have h : wq.cell? ⟨j, 3, none⟩ = some (.slice p E.length cp) := (hBk hq).c 3; go_simp) hS ?_
    try simp only [List.getElem_toArray, List.getElem_cons_succ, List.getElem_cons_zero, Act.put, List.setIfInBounds_toArray, List.set_cons_zero, List.set_cons_succ]
    refine wpAnyT_take (i := 8) (oi := _) (v := (.int .i64 (E.length : Int))) rfl (by kernel_rfl) (fun _ _ _ h => h) (by kernel_rfl) (fun wq hq => by go_simp) hS ?_
    try simp only [List.getElem_toArray, List.getElem_cons_succ, List.getElem_cons_zero, Act.put, List.setIfInBounds_toArray, List.set_cons_zero, List.set_cons_succ]
    refine wpAnyT_take (i := 9) (oi := _) (v := (.slice (some q) M c)) rfl (by kernel_rfl) (fun _ _ _ h => h) (by kernel_rfl) (fun wq hq => rfl) hS ?_
    try simp only [List.getElem_toArray, List.getElem_cons_succ, List.getElem_cons_zero, Act.put, List.setIfInBounds_toArray, List.set_cons_zero, List.set_cons_succ]
    refine wpAnyT_ready (rs := [10]) (by kernel_rfl) (by simp) ?_
    refine AllReadyT.cons rfl (by decide) (fun K hC => ?_) AllReadyT.nil
    go_simp
    go_wp2_with (go_at_call 129; apply Calls.mono; (· (with_reducible refine sectors_1 E.length T q M c b _ ?_ ?_ ?_ ?_ ?_ ?_); (· exact ((H.out.2.2.2.2.2.1.below H1.out.2.1).below HC.out.2.2).below hS); (· exact H.out.2.2.2.2.2.2.2.1); (· exact h1); (· omega); (· exact H.out.2.2.2.2.2.2.2.2.2.2.2); (· have := H.out.2.2.2.2.2.2.2.2.2.1; omega)); rintro e w3 ⟨p3, n3, c3, rfl, h3, x3, b3⟩)
    have hn3 := h3.len
    rw [secsF_len, H.out.2.2.2.2.2.2.2.1, H.out.2.2.2.2.2.2.2.2.1] at hn3
    subst hn3
    have hN1 : 1 ≤ N := by rw [← H.out.2.2.2.2.2.2.2.2.1]; exact need_1 M
    obtain ⟨G3, rfl, hog, hgl⟩ := h3.pos (by omega)
    have hS3 := hS.trans (b3.mono hS.size)
    refine hC.out _ _ hS3 ?_
    clear hC K
    try simp only [List.getElem_toArray, List.getElem_cons_succ, List.getElem_cons_zero, Act.put, List.setIfInBounds_toArray, List.set_cons_zero, List.set_cons_succ]
    refine wpAnyT_tail (by kernel_rfl) ?_
    try simp only [List.getElem_toArray, List.getElem_cons_succ, List.getElem_cons_zero, Act.put, List.setIfInBounds_toArray, List.set_cons_zero, List.set_cons_succ]
    go_wp2_with (go_at_call 128; apply Calls.mono; (· (with_reducible exact chunk_64 _ _ _ _)); rintro e w4 ⟨rfl, rfl⟩)
    have bs4 := Boxed.new (w3.alloc (.cells #[.slice (some ⟨G3, 0, none⟩) (64 * N) c3] 38)) 3 (.int .i64 64)
    rw [World.size_alloc] at bs4
    have bs3 : Boxed ((w3.alloc (.cells #[.slice (some ⟨G3, 0, none⟩) (64 * N) c3] 38)).alloc (.cells #[.int .i64 64] 3)) w3.heap.size 38 (.slice (some ⟨G3, 0, none⟩) (64 * N) c3) := (Boxed.new w3 _ _).alloc _
    have hb34 : Below w3.heap.size w3 ((w3.alloc (.cells #[.slice (some ⟨G3, 0, none⟩) (64 * N) c3] 38)).alloc (.cells #[.int .i64 64] 3)) := ((Below.refl _ w3).alloc (Nat.le_refl _) _).alloc (by simp) _
    have hs34 : ((w3.alloc (.cells #[.slice (some ⟨G3, 0, none⟩) (64 * N) c3] 38)).alloc (.cells #[.int .i64 64] 3)).heap.size = w3.heap.size + 2 := by simp
    generalize ((w3.alloc (.cells #[.slice (some ⟨G3, 0, none⟩) (64 * N) c3] 38)).alloc (.cells #[.int .i64 64] 3)) = w4 at *
    have hS4 := hS3.trans (hb34.mono hS3.size)
    have hDw := ((H.out.2.2.1.below H1.out.2.1).below HC.out.2.2).below hS4
    have hBa4 := boxed_only HC.out.2.1 (Only.of_below hS4 : Only (fun _ => False) wc _) (fun h => h)
    have hlts : r < w.heap.size ∧ g < w.heap.size ∧ j < w.heap.size := ⟨H.out.2.2.1.b.lt, H.out.2.2.1.s.lt, H.out.1.lt⟩
    have hsz1 := H1.out.2.2
    have hBaw := HC.out.2.1.lt
    have hszc := HC.out.2.2.size
    have hG3 : wc.heap.size ≤ G3 := by have := x3 G3 hog; have := hS.size; omega
    have hsw3 := hS3.size
    have h34 := h3.below hb34
    have hc3 := h3.form
    obtain ⟨S, hSe⟩ : ∃ S, S = secsF 1 E.length b := ⟨_, rfl⟩
    rw [← hSe] at h34
    have hSl : S.length = 64 * N := by rw [hSe, secsF_len, H.out.2.2.2.2.2.2.2.1, H.out.2.2.2.2.2.2.2.2.1]
    have hBj4 := boxed_only (boxed_only H1.out.1.1 (Only.of_below HC.out.2.2 : Only (fun _ => False) W1 _) (fun h => h)) (Only.of_below hS4 : Only (fun _ => False) wc _) (fun h => h)
    have hBr4 := boxed_only (boxed_only H1.out.1.2 (Only.of_below HC.out.2.2 : Only (fun _ => False) W1 _) (fun h => h)) (Only.of_below hS4 : Only (fun _ => False) wc _) (fun h => h)
    have hb4 := H1.out.2.1.trans ((HC.out.2.2.trans (hS4.mono HC.out.2.2.size)).mono H1.out.2.1.size)
    have hpN : partsN 64 (64 * N) = N := by unfold partsN; omega
    obtain ⟨AT, hAT⟩ : ∃ AT, AT = 2 + used := ⟨_, rfl⟩
    rw [← hAT] at hBa4
    have h0 : PuP w4 r g n k Ba AT N L S [] w4 := ⟨hBa4, by simpa [wrK] using hDw, Only.refl _ _⟩
    have H4 := Lib.hid (And.intro h34 (And.intro hSl (And.intro hBj4 (And.intro hBr4 (And.intro hb4 (And.intro hpN (And.intro hAT hSe)))))))
    have K4 := Lib.hid (And.intro hlts (And.intro hsz1 (And.intro hBaw (And.intro hszc (And.intro hG3 (And.intro hsw3 (And.intro hs34 (And.intro hA (And.intro hul HC.out.1)))))))))
    have hBaS : Ba < w4.heap.size := by omega
    have hrS : r < w4.heap.size := by omega
    have hgS : g < w4.heap.size := by omega
    clear hDw hBa4 hlts hsz1 hBaw hszc hG3 h34 hSl hBj4 hBr4 hb4 hpN hAT hSe hS hS3 hS4 b3 x3 h3 
    generalize w3.heap.size = Bs at *
    refine (wpIn_wide (n := 8)).1 ?_
    refine wpIn_rangeFunc_ownG (F := Fence.wide) rfl (by decide) (gf := 155) (lb := #[rp Bs, rp (Bs + 1)]) rfl trivial (enters_of Tryz.func155 (by kernel_rfl) rfl)
      (chunk_stops Fence.wide 7 trivial rfl (by decide) Bs (Bs + 1) G3 0 (64 * N) c3 64 (by decide) (by decide) hc3.1 (by have := hc3.2.1; unfold maxLen at this; omega) w4 bs3 bs4) KeepC.t (fun W l o o' _ h1 h2 _ => KeepC.b W l o o' h1 h2) (Below.refl _ _) (fun _ => rfl)
      (PuP w4 r g n k Ba AT N L S) (fun _ _ _ => False) (PuP.own (Nat.le_refl _) hrS hgS hBaS)
      (fun _ _ _ _ _ hs _ _ => hs) h0
      (fun x => { tmps := #[rp j, .slice (some q) M c, .int .i64 0, rp w.heap.size, undef, undef, rp (w.heap.size + 1), rp Ba, .slice (some ⟨G3, 0 + 64 * x.1, none⟩) (min 64 (64 * N - 64 * x.1)) (min 64 (64 * N - 64 * x.1)), undef, u10, u11, u12, u13, u14, u15, u16, u17, u18, u19, u20, rp j, rp j, .pointer (some ⟨j, 1, none⟩), .int .u64 1, rp j, rp j, .pointer (some ⟨j, 3, none⟩), .slice p E.length cp, .int .i64 (E.length : Int), .slice (some q) M c, .slice (some ⟨G3, 0, none⟩) (64 * N) c3, .func (.func 155) #[] #[rp Bs, rp (Bs + 1)], .slice (some ⟨G3, 0 + 64 * x.1, none⟩) (min 64 (64 * N - 64 * x.1)) (min 64 (64 * N - 64 * x.1)), undef, undef, undef, undef, undef, undef, undef, undef, undef, undef, undef, undef, undef, undef, undef, undef, undef, undef, undef, undef, undef, undef, undef, undef, undef, undef, undef, undef, undef, undef, undef, undef, undef, undef, undef], defers := [] }) ?assign ?body ?done ?stop
    case assign =>
      intro l x W K hK
      unfold encPart
      have hz : 0 + 64 * x.1 = 64 * x.1 := Nat.zero_add _
      rw [hz] at hK
      gi_wp2
      exact hK
    case body =>
      rintro l pre x W ⟨hBa, hD, hO⟩ hlt
      have hx := x.2
      have hx4 : x.1 < N := Nat.lt_of_lt_of_eq x.2 H4.out.2.2.2.2.2.1
      have hltN : pre.length < N := by rw [H4.out.2.2.2.2.2.1] at hlt; exact hlt
      have hm : min 64 (64 * N - 64 * x.1) = 64 := by omega
      rw [hm, Nat.zero_add]
      obtain ⟨I, hI⟩ : ∃ I, I = AT + pre.length := ⟨_, rfl⟩
      rw [← hI] at hBa
      have hne4 : Ba ≠ G3 ∧ G3 ≠ r ∧ G3 ≠ g ∧ w.heap.size ≠ r ∧ w.heap.size ≠ g ∧ w.heap.size ≠ Ba ∧ Ba ≠ r ∧ Ba ≠ g ∧ j ≠ Ba := by
        have := K4.out.1; have := K4.out.2.1; have := K4.out.2.2.1; have := K4.out.2.2.2.1; have := K4.out.2.2.2.2.1; have := K4.out.2.2.2.2.2.2.2.2.2
        refine ⟨?_, ?_, ?_, ?_, ?_, ?_, ?_, ?_, ?_⟩ <;> omega
      have hIn : I < n := by have := K4.out.2.2.2.2.2.2.2.1; have := K4.out.2.2.2.2.2.2.2.2.1; have := H4.out.2.2.2.2.2.2.1; omega
      have hbW := boxed_only H4.out.2.2.1 hO (by omega)
      have hjW : Blk W j 104 (jrV r (.slice p E.length cp) used) := (H.out.1.below H4.out.2.2.2.2.1).only hO (by have := H.out.2.2.2.1; omega)
      have hRx : Rd W (fun y => owB (some ⟨G3, 0, none⟩) (64 * N) c3 y) (some ⟨G3, 64 * x.1, none⟩) ((S.drop (64 * x.1)).take 64) := rd_mid (H4.out.1.only hO (fun y hy e => by have e2 : G3 = y := (by cases hy; rfl); omega)).rd _ _
      have hXl : ((S.drop (64 * x.1)).take 64).length = 64 := by rw [List.length_take, List.length_drop, H4.out.2.1]; omega
      have HB := Lib.hid (And.intro hBa (And.intro hD (And.intro hO (And.intro hne4 (And.intro hIn (And.intro hbW (And.intro hjW (And.intro hRx (And.intro hXl hI)))))))))
      have hI512 : I ≤ 1000 := by have := hD.n0; omega
      clear hBa hD hO hne4 hbW hjW hRx hXl hx hx4 hlt hm hI
      gi_wp2
      have hcs : ∀ {q : Nat → Prop} {wx : World}, Only q W wx → ¬ q w.heap.size → ¬ q j → ¬ q Ba → (wx.cell? ⟨w.heap.size, 0, none⟩ = some (rp j) ∧ wx.cell? ⟨j, 0, none⟩ = some (rp r) ∧ wx.cell? ⟨Ba, 0, none⟩ = some (.int .i64 (I : Int))) := fun ho h1 h2 h3 =>
        ⟨(boxed_only HB.out.2.2.2.2.2.1 ho h1).cell, (HB.out.2.2.2.2.2.2.1.only ho h2).c 0, (boxed_only HB.out.1 ho h3).cell⟩
      refine wpIn_region_tail (S := fun wx => wx.cell? ⟨w.heap.size, 0, none⟩ = some (rp j) ∧ wx.cell? ⟨j, 0, none⟩ = some (rp r) ∧ wx.cell? ⟨Ba, 0, none⟩ = some (.int .i64 (I : Int))) (n := 7) (by kernel_rfl) (by decide) (by intro o ho c e; simp only [List.mem_cons, List.not_mem_nil, or_false] at ho; rcases ho with rfl | rfl | rfl | rfl | rfl | rfl | rfl | rfl <;> cases e) (fun ⟨_, _, h⟩ => h) ?_
      try simp only [List.drop_succ_cons, List.drop_zero]
      obtain ⟨u0, hu0⟩ : ∃ u, u = W.drew := ⟨_, rfl⟩
      have hb0 : Below W.heap.size W u0 := by rw [hu0]; exact (Below.refl _ _).drew
      have hS := hcs (Only.of_below hb0 : Only (fun _ => False) W u0) (fun h => h) (fun h => h) (fun h => h)
      rw [← hu0]
      clear hu0
      try simp only [Act.put]
      refine wpAnyT_take (i := 0) (oi := _) (v := (rp j)) rfl (by kernel_rfl) (fun _ _ _ h => h) (by kernel_rfl) (fun wq hq => by have h := hq.1; go_simp) hS ?_
      try simp only [List.getElem_toArray, List.getElem_cons_succ, List.getElem_cons_zero, Act.put, List.setIfInBounds_toArray, List.set_cons_zero, List.set_cons_succ]
      refine wpAnyT_take (i := 1) (oi := _) (v := (rp j)) rfl (by kernel_rfl) (fun _ _ _ h => h) (by kernel_rfl) (fun wq hq => rfl) hS ?_
      try simp only [List.getElem_toArray, List.getElem_cons_succ, List.getElem_cons_zero, Act.put, List.setIfInBounds_toArray, List.set_cons_zero, List.set_cons_succ]
      refine wpAnyT_take (i := 2) (oi := _) (v := (rp j)) rfl (by kernel_rfl) (fun _ _ _ h => h) (by kernel_rfl) (fun wq hq => by go_simp) hS ?_
      try simp only [List.getElem_toArray, List.getElem_cons_succ, List.getElem_cons_zero, Act.put, List.setIfInBounds_toArray, List.set_cons_zero, List.set_cons_succ]
      refine wpAnyT_take (i := 3) (oi := _) (v := (rp r)) rfl (by kernel_rfl) (fun _ _ _ h => h) (by kernel_rfl) (fun wq hq => by have h := hq.2.1; go_simp) hS ?_
      try simp only [List.getElem_toArray, List.getElem_cons_succ, List.getElem_cons_zero, Act.put, List.setIfInBounds_toArray, List.set_cons_zero, List.set_cons_succ]
      refine wpAnyT_take (i := 4) (oi := _) (v := (.int .i64 (I : Int))) rfl (by kernel_rfl) (fun _ _ _ h => h) (by kernel_rfl) (fun wq hq => by have h := hq.2.2; go_simp) hS ?_
      try simp only [List.getElem_toArray, List.getElem_cons_succ, List.getElem_cons_zero, Act.put, List.setIfInBounds_toArray, List.set_cons_zero, List.set_cons_succ]
      refine wpAnyT_take (i := 5) (oi := _) (v := (.slice (some ⟨G3, 64 * x.1, none⟩) 64 64)) rfl (by kernel_rfl) (fun _ _ _ h => h) (by kernel_rfl) (fun wq hq => rfl) hS ?_
      try simp only [List.getElem_toArray, List.getElem_cons_succ, List.getElem_cons_zero, Act.put, List.setIfInBounds_toArray, List.set_cons_zero, List.set_cons_succ]
      refine wpAnyT_ready (rs := [6]) (by kernel_rfl) (by simp) ?_
      refine AllReadyT.cons rfl (by decide) (fun K hC => ?_) AllReadyT.nil
      go_simp
      go_wp2_with (go_at_call 35; apply Calls.mono; (· (with_reducible refine dWrite_c r g n (k + pre.length) I (wrK L S AT (pre.map Subtype.val)) (fun y => owB (some ⟨G3, 0, none⟩) (64 * N) c3 y) (some ⟨G3, 64 * x.1, none⟩) 64 ((S.drop (64 * x.1)).take 64) _ ?_ ?_ ?_ ?_ ?_ ?_); (· exact HB.out.2.1.below hb0); (· exact hIn); (· exact HB.out.2.2.2.2.2.2.2.1.below hb0); (· intro y hy; have e2 : G3 = y := (by cases hy; rfl); have := HB.out.2.2.2.1; omega); (· exact HB.out.2.2.2.2.2.2.2.2.1); (· have := H.out.2.2.2.2.2.2.2.2.2.2.1; have := HB.out.2.2.2.2.2.2.2.2.2; omega)); rintro e w5 ⟨rfl, hD5, hO5⟩)
      have hO5' : Only (fun y => y = r ∨ y = g) W w5 := (Only.of_below hb0).then hO5
      have hne := HB.out.2.2.2.1
      have hjne := H.out.2.2.2.1
      have hS5 := hcs hO5' (by omega) (by omega) (by omega)
      have hBa5 := boxed_only HB.out.1 hO5' (by omega)
      have H5 := Lib.hid (And.intro hD5 (And.intro hO5' hBa5))
      refine hC.out _ _ hS5 ?_
      clear hC K hD5 hO5 hO5' hS hb0 hcs
      try simp only [List.getElem_toArray, List.getElem_cons_succ, List.getElem_cons_zero, Act.put, List.setIfInBounds_toArray, List.set_cons_zero, List.set_cons_succ]
      refine wpAnyT_tail (by kernel_rfl) ?_
      try simp only [List.getElem_toArray, List.getElem_cons_succ, List.getElem_cons_zero, Act.put, List.setIfInBounds_toArray, List.set_cons_zero, List.set_cons_succ]
      have c5 := hS5.2.2
      have f5 := hBa5.frozen
      go_wp2
      gi_wp2
      have ho6 : Only (fun y => y = Ba) w5 (w5.setCell ⟨Ba, 0, none⟩ (.int .i64 ((I : Int) + 1))) := (Only.refl (fun y => y = Ba) w5).setCell _ _ (.inl rfl)
      have hB6 := H5.out.2.2.set (.int .i64 ((I : Int) + 1))
      have hOW : Only (fun y => y = r ∨ y = g ∨ y = Ba) W (w5.setCell ⟨Ba, 0, none⟩ (.int .i64 ((I : Int) + 1))) := (H5.out.2.1.mono (fun y _ e => by rcases e with e | e; (· exact .inl e); (· exact .inr (.inl e)))).then (ho6.mono (fun y _ e => .inr (.inr e)))
      have hD6 := H5.out.1.only ho6 (by omega) (by omega)
      have hKO : KeepsOthers W (w5.setCell ⟨Ba, 0, none⟩ (.int .i64 ((I : Int) + 1))) := keeps_of_only hOW (by
        rintro y ob (rfl | rfl | rfl) hy
        · exact cells_of_cell HB.out.2.1.c0 hy
        · have e := HB.out.2.1.s
          rw [show W.heap[y]? = _ from e] at hy
          cases hy
          rfl
        · exact cells_of_cell HB.out.1.cell hy)
      have hbs : Bs ≠ r ∧ Bs ≠ g ∧ Bs ≠ Ba ∧ Bs + 1 ≠ r ∧ Bs + 1 ≠ g ∧ Bs + 1 ≠ Ba := by
        have := K4.out.1; have := K4.out.2.1; have := K4.out.2.2.1; have := K4.out.2.2.2.1; have := K4.out.2.2.2.2.2.1
        refine ⟨?_, ?_, ?_, ?_, ?_, ?_⟩ <;> omega
      refine ⟨hKO.from _, ?_, ?_, ?_, ?_⟩
      · rintro y ob (rfl | rfl) hy _
        · exact (hOW.block _ (Array.getElem?_eq_some_iff.1 hy).1 (by omega)).trans hy
        · exact (hOW.block _ (Array.getElem?_eq_some_iff.1 hy).1 (by omega)).trans hy
      · have e : ((AT + (pre ++ [x]).length : Nat) : Int) = (I : Int) + 1 := by rw [List.length_append, List.length_singleton, HB.out.2.2.2.2.2.2.2.2.2]; omega
        rw [e]
        exact hB6
      · have e1 : (pre ++ [x]).map Subtype.val = pre.map Subtype.val ++ [x.1] := by rw [List.map_append]; rfl
        have e2 : k + (pre ++ [x]).length = k + pre.length + 1 := by rw [List.length_append, List.length_singleton]; omega
        rw [e1, e2, wrK_snoc, List.length_map, ← HB.out.2.2.2.2.2.2.2.2.2]
        exact hD6
      · exact HB.out.2.2.1.then hOW
    case done =>
      rintro D ys W hD hys ⟨hBa, hDd, hO⟩ hK
      have hyl : ys.length = N := by
        have h := congrArg List.length hys
        rw [List.length_unattach, List.length_range] at h
        exact h.trans H4.out.2.2.2.2.2.1
      have hym : ys.map Subtype.val = List.range N := by
        have h : ys.map Subtype.val = ys.unattach := rfl
        rw [h, hys]
        exact congrArg List.range H4.out.2.2.2.2.2.1
      rw [hyl, hym, wrK_range L S AT N H4.out.2.1 (by have := K4.out.2.2.2.2.2.2.2.1; have := H.out.2.2.1.l; have := H4.out.2.2.2.2.2.2.1; omega) N (Nat.le_refl _), List.take_of_length_le (by rw [H4.out.2.1]; exact Nat.le_refl _), H4.out.2.2.2.2.2.2.2] at hDd
      rw [hyl] at hBa
      have hne4 : w.heap.size ≠ r ∧ w.heap.size ≠ g ∧ w.heap.size ≠ Ba ∧ w.heap.size + 1 ≠ r ∧ w.heap.size + 1 ≠ g ∧ w.heap.size + 1 ≠ Ba ∧ j ≠ Ba ∧ w.heap.size ≤ Ba := by
        have := K4.out.1; have := K4.out.2.1; have := K4.out.2.2.2.2.2.2.2.2.2
        refine ⟨?_, ?_, ?_, ?_, ?_, ?_, ?_, ?_⟩ <;> omega
      have hbW := boxed_only H4.out.2.2.1 hO (by omega)
      have hrW := boxed_only H4.out.2.2.2.1 hO (by omega)
      have hjW : Blk W j 104 (jrV r (.slice p E.length cp) used) := (H.out.1.below H4.out.2.2.2.2.1).only hO (by have := H.out.2.2.2.1; omega)
      have hRw : RwI W (fun y => P y ∧ y < w.heap.size) (.slice p E.length cp) E := by
        refine (H.out.2.1.low.keep (Only.of_below H4.out.2.2.2.2.1 : Only (fun _ => False) w w4) (fun _ _ h => h)).keep hO ?_
        rintro y ⟨hy1, hy2⟩ e
        have hnp := H.out.2.2.2.2.1
        rcases e with e | e | e
        · subst e; exact hnp.2.1 hy1
        · subst e; exact hnp.2.2 hy1
        · omega
      have hTb : Rd W T (some q) b := by
        have h := H.out.2.2.2.2.2.1
        have h' : Rd w (fun y => T y ∧ y < w.heap.size) (some q) b := h.mono (fun y hy hs => ⟨hs, hy⟩)
        have h2 := (h'.below H4.out.2.2.2.2.1).only hO (fun y hy e => by have := H.out.2.2.2.2.2.2.1 y hy.1; have := hy.2; omega)
        exact h2.mono (fun _ _ h => h.1)
      have hBl : Only (fun y => P y ∨ y = j ∨ y = r ∨ y = g) w W := (Only.of_below H4.out.2.2.2.2.1).trans hO (fun _ h => h) (fun y hy e => by rcases e with e | e | e; (· exact .inr (.inr (.inl e))); (· exact .inr (.inr (.inr e))); (· omega))
      have hDW : w.heap.size ≤ D ∧ D < W.heap.size ∧ w.heap.size + 2 ≤ D := by have := H4.out.2.2.2.2.1.size; have := K4.out.2.1; have := K4.out.2.2.1; have := hBaS; exact ⟨by omega, (Array.getElem?_eq_some_iff.1 hK).1, by have := K4.out.2.2.2.1; have := K4.out.2.2.2.2.2.1; have := K4.out.2.2.2.2.2.2.1; omega⟩
      have HE := Lib.hid (And.intro hDd (And.intro hbW (And.intro hrW (And.intro hjW (And.intro hRw (And.intro hTb (And.intro hBl (And.intro hDW (And.intro hne4 hK)))))))))
      clear hDd hbW hrW hjW hRw hTb hBl hDW hne4 hK hO hBa hD hys hyl hym h0 bs3 bs4
      go_wp2
      refine wp_region_tail (S := fun wx => wx.cell? ⟨w.heap.size, 0, none⟩ = some (rp j) ∧ wx.cell? ⟨j, 3, none⟩ = some (.slice p E.length cp)) (n := 9) (by kernel_rfl) (by decide) ?_
      try simp only [List.drop_succ_cons, List.drop_zero]
      obtain ⟨u0, hu0⟩ : ∃ u, u = W.drew := ⟨_, rfl⟩
      have hb0 : Below W.heap.size W u0 := by rw [hu0]; exact (Below.refl _ _).drew
      have hcs : ∀ {q : Nat → Prop} {wx : World}, Only q W wx → ¬ q w.heap.size → ¬ q j → (wx.cell? ⟨w.heap.size, 0, none⟩ = some (rp j) ∧ wx.cell? ⟨j, 3, none⟩ = some (.slice p E.length cp)) := fun ho h1 h2 => ⟨(boxed_only HE.out.2.1 ho h1).cell, (HE.out.2.2.2.1.only ho h2).c 3⟩
      have hS := hcs (Only.of_below hb0 : Only (fun _ => False) W u0) (fun h => h) (fun h => h)
      rw [← hu0]
      clear hu0
      try simp only [Act.put]
      refine wpAnyT_take (i := 0) (oi := _) (v := (rp j)) rfl (by kernel_rfl) (fun _ _ _ h => h) (by kernel_rfl) (fun wq hq => by have h := hq.1; go_simp) hS ?_
      try simp only [List.getElem_toArray, List.getElem_cons_succ, List.getElem_cons_zero, Act.put, List.setIfInBounds_toArray, List.set_cons_zero, List.set_cons_succ]
      refine wpAnyT_take (i := 1) (oi := _) (v := (rp j)) rfl (by kernel_rfl) (fun _ _ _ h => h) (by kernel_rfl) (fun wq hq => by have h := hq.1; go_simp) hS ?_
      try simp only [List.getElem_toArray, List.getElem_cons_succ, List.getElem_cons_zero, Act.put, List.setIfInBounds_toArray, List.set_cons_zero, List.set_cons_succ]
      refine wpAnyT_take (i := 2) (oi := _) (v := (rp j)) rfl (by kernel_rfl) (fun _ _ _ h => h) (by kernel_rfl) (fun wq hq => rfl) hS ?_
      try simp only [List.getElem_toArray, List.getElem_cons_succ, List.getElem_cons_zero, Act.put, List.setIfInBounds_toArray, List.set_cons_zero, List.set_cons_succ]
      refine wpAnyT_take (i := 3) (oi := _) (v := (.pointer (some ⟨j, 3, none⟩))) rfl (by kernel_rfl) (fun _ _ _ h => h) (by kernel_rfl) (fun wq hq => by go_simp) hS ?_
      try simp only [List.getElem_toArray, List.getElem_cons_succ, List.getElem_cons_zero, Act.put, List.setIfInBounds_toArray, List.set_cons_zero, List.set_cons_succ]
      refine wpAnyT_take (i := 4) (oi := _) (v := (.slice p E.length cp)) rfl (by kernel_rfl) (fun _ _ _ h => h) (by kernel_rfl) (fun wq hq => by have h := hq.2; go_simp) hS ?_
      try simp only [List.getElem_toArray, List.getElem_cons_succ, List.getElem_cons_zero, Act.put, List.setIfInBounds_toArray, List.set_cons_zero, List.set_cons_succ]
      refine wpAnyT_take (i := 5) (oi := _) (v := (.slice (some q) M c)) rfl (by kernel_rfl) (fun _ _ _ h => h) (by kernel_rfl) (fun wq hq => rfl) hS ?_
      try simp only [List.getElem_toArray, List.getElem_cons_succ, List.getElem_cons_zero, Act.put, List.setIfInBounds_toArray, List.set_cons_zero, List.set_cons_succ]
      refine wpAnyT_ready (rs := [6]) (by kernel_rfl) (by simp) ?_
      refine AllReadyT.cons rfl (by decide) (fun K hC => ?_) AllReadyT.nil
      go_simp
      go_wp2_with (go_at_call 38; apply Calls.mono; (· (with_reducible refine clone_c T q M c b _ ?_ ?_ ?_); (· exact HE.out.2.2.2.2.2.1.below hb0); (· rw [H.out.2.2.2.2.2.2.2.1]; omega); (· exact H.out.2.2.2.2.2.2.2.1)); rintro e w6 ⟨G6, c6, rfl, hG1, hG2, hG3, hG4, hG5, b6⟩)
      have hb6 := hb0.trans (b6.mono hb0.size)
      refine hC.out _ _ (hcs (Only.of_below hb6 : Only (fun _ => False) W w6) (fun h => h) (fun h => h)) ?_
      clear hC K
      try simp only [List.getElem_toArray, List.getElem_cons_succ, List.getElem_cons_zero, Act.put, List.setIfInBounds_toArray, List.set_cons_zero, List.set_cons_succ]
      refine wpAnyT_ready (rs := [7]) (by kernel_rfl) (by simp) ?_
      refine AllReadyT.cons rfl (by decide) (fun K hC => ?_) AllReadyT.nil
      go_simp
      go_wp2
      have hb7 := hb6.alloc hb6.size (.cells #[.slice (some ⟨G6, 0, none⟩) M c6] 38)
      refine hC.out _ _ (hcs (Only.of_below hb7 : Only (fun _ => False) W _) (fun h => h) (fun h => h)) ?_
      clear hC K
      try simp only [List.getElem_toArray, List.getElem_cons_succ, List.getElem_cons_zero, Act.put, List.setIfInBounds_toArray, List.set_cons_zero, List.set_cons_succ]
      have hc7 : (w6.alloc (.cells #[.slice (some ⟨G6, 0, none⟩) M c6] 38)).cell? ⟨w6.heap.size, 0, none⟩ = some (.slice (some ⟨G6, 0, none⟩) M c6) := (Blk.new w6 38 #[.slice (some ⟨G6, 0, none⟩) M c6]).c 0
      have hWs := HE.out.2.2.2.2.2.2.1.size
      have hR7 : Rd (w6.alloc (.cells #[.slice (some ⟨G6, 0, none⟩) M c6] 38)) (fun x => (P x ∧ x < w.heap.size ∨ w.heap.size ≤ x ∧ x ≠ w.heap.size + 1 ∧ x ≠ D) ∧ Value.ownBlock (.slice p E.length cp) ≠ some x) (some ⟨G6, 0, none⟩) b := ((OB.of_own hG5).1.rd.below ((Below.refl _ w6).alloc (Nat.le_refl _) _)).mono (fun x _ hx => by
        have hx2 := (OB.of_own hG5).2 x hx
        have h0 := hb0.size
        have hDl := HE.out.2.2.2.2.2.2.2.1
        exact ⟨.inr ⟨by omega, by omega, by omega⟩, fun h => by have := (HE.out.2.2.2.2.1.ob x h).2; omega⟩)
      have hs7 : (w6.alloc (.cells #[.slice (some ⟨G6, 0, none⟩) M c6] 38)).heap.size = w6.heap.size + 1 := by rw [World.size_alloc]
      have hR7w := HE.out.2.2.2.2.1.keep (Only.of_below hb7 : Only (fun _ => False) W _) (fun _ _ h => h)
      obtain ⟨BL, hBL⟩ : ∃ BL, BL = w6.heap.size := ⟨_, rfl⟩
      rw [← hBL] at hc7 ⊢
      change wpAnyT _ _ _ _ _ _ _ _ _ _ (w6.alloc (.cells #[.slice (some ⟨G6, 0, none⟩) M c6] 38))
      generalize w6.alloc (.cells #[.slice (some ⟨G6, 0, none⟩) M c6] 38) = w7 at *
      have hM := H.out.2.2.2.2.2.2.2.1
      rw [← hM] at hc7
      have hsz7 := hb7.size
      have hE1 := H.out.2.2.2.2.2.2.2.2.2.1
      have hMc : b.length ≤ c6 := by omega
      refine wpAnyT_ready (rs := [8]) (by kernel_rfl) (by simp) ?_
      refine AllReadyT.cons rfl (by decide) (fun K hC => ?_) AllReadyT.nil
      refine step_rows (b := b) rfl _ _ rfl (P := fun y => P y ∧ y < w.heap.size) (fun x => P x ∧ x < w.heap.size ∨ w.heap.size ≤ x ∧ x ≠ w.heap.size + 1 ∧ x ≠ D) rfl rfl hR7w hc7 hR7 hMc (by omega) (fun x h => .inl h) (by have hDl := HE.out.2.2.2.2.2.2.2.1; exact .inr ⟨by omega, by omega, by omega⟩) ?_
      intro p8 c8 w8 h8 hO8
      have hO78 : Only (fun x => Value.ownBlock (.slice p E.length cp) = some x) W w8 := (Only.of_below hb7).then hO8
      have hob : ∀ x, Value.ownBlock (.slice p E.length cp) = some x → P x ∧ x < w.heap.size := fun x hx => (HE.out.2.2.2.2.1.ob x hx).1
      have hnp := H.out.2.2.2.2.1
      have hDl := HE.out.2.2.2.2.2.2.2.1
      have hj8 := HE.out.2.2.2.1.only hO78 (fun h => hnp.1 (hob j h).1)
      have H8 := Lib.hid (And.intro (boxed_only HE.out.2.1 hO78 (fun h => by have := (hob _ h).2; omega)) (And.intro (boxed_only HE.out.2.2.1 hO78 (fun h => by have := (hob _ h).2; omega)) (And.intro hj8 (And.intro h8 (And.intro (HE.out.1.only hO78 (fun h => hnp.2.1 (hob r h).1) (fun h => hnp.2.2 (hob g h).1)) (And.intro (HE.out.2.2.2.2.2.2.1.then (hO78.trans (Only.refl (fun _ => False) w8) (fun x h => .inl (hob x h).1) (fun _ _ h => h.elim))) ((hO78.block D hDl.2.1 (fun h => by have := (hob _ h).2; omega)).trans HE.out.2.2.2.2.2.2.2.2.2)))))))
      refine hC.out _ _ (hcs hO78 (fun h => by have := (hob _ h).2; omega) (fun h => hnp.1 (hob j h).1)) ?_
      have f8 := hj8.fr 3
      have d8 : w8.cell? ⟨j, 3, none⟩ = some (.slice p E.length cp) := hj8.c 3
      clear hC K hj8 h8 hO8 hO78 hob hcs hS hb0 hb6 hb7 hc7 hR7 hR7w hsz7 hs7 hWs hG1 hG2 hG4 hG5 b6 hBL hMc hM
      try simp only [List.getElem_toArray, List.getElem_cons_succ, List.getElem_cons_zero, Act.put, List.setIfInBounds_toArray, List.set_cons_zero, List.set_cons_succ]
      refine wpAnyT_tail (by kernel_rfl) ?_
      try simp only [List.getElem_toArray, List.getElem_cons_succ, List.getElem_cons_zero, Act.put, List.setIfInBounds_toArray, List.set_cons_zero, List.set_cons_succ]
      go_wp2
      refine wp_world (fun W9 => Boxed W9 w.heap.size 48 (rp j) ∧ Boxed W9 (w.heap.size + 1) 23 (.int .i64 0) ∧ Blk W9 j 104 (jrV r (.slice p8 (E.length + 1) c8) used) ∧ RwI W9 (fun x => P x ∧ x < w.heap.size ∨ w.heap.size ≤ x ∧ x ≠ w.heap.size + 1 ∧ x ≠ D) (.slice p8 (E.length + 1) c8) (E ++ [b]) ∧ DiskI W9 r g n (k + N) (splice L (AT * 64) (secsF 1 E.length b)) ∧ Only (fun y => P y ∨ y = j ∨ y = r ∨ y = g) w W9 ∧ W9.heap[D]? = some (Obj.deferred (some []))) ?_ ?_
      · have ho9 : Only (fun y => y = j) w8 (w8.setCell ⟨j, 3, none⟩ (.slice p8 (E.length + 1) c8)) := (Only.refl (fun y => y = j) w8).setCell _ _ (.inl rfl)
        have hjl := H.out.1.lt
        have hjn := H.out.2.2.2.1
        have hDl2 : D < w8.heap.size := (Array.getElem?_eq_some_iff.1 H8.out.2.2.2.2.2.2).1
        exact ⟨boxed_only H8.out.1 ho9 (by omega), boxed_only H8.out.2.1 ho9 (by omega), H8.out.2.2.1.set 3 _, H8.out.2.2.2.1.keep ho9 (fun y hy e => by subst e; rcases hy with hy | hy; (· exact hnp.1 hy.1); (· omega)), H8.out.2.2.2.2.1.only ho9 (by omega) (by omega), H8.out.2.2.2.2.2.1.then (ho9.mono (fun y _ e => .inr (.inl e))), (ho9.block D hDl2 (by omega)).trans H8.out.2.2.2.2.2.2⟩
      intro W9 hW9
      have H9 := Lib.hid hW9
      clear hW9 f8 d8 H8
      refine wp_region_tail (S := fun wx => Below W9.heap.size W9 wx) (n := 8) (by kernel_rfl) (by decide) ?_
      try simp only [List.drop_succ_cons, List.drop_zero]
      obtain ⟨u0, hu0⟩ : ∃ u, u = W9.drew := ⟨_, rfl⟩
      have hS : Below W9.heap.size W9 u0 := by rw [hu0]; exact (Below.refl _ _).drew
      rw [← hu0]
      clear hu0
      try simp only [Act.put]
      refine wpAnyT_take (i := 0) (oi := _) (v := (rp j)) rfl (by kernel_rfl) (fun _ _ _ h => h) (by kernel_rfl) (fun wq hq => by have h := (boxed_only H9.out.1 (Only.of_below hq : Only (fun _ => False) W9 _) (fun h => h)).cell; go_simp) hS ?_
      try simp only [List.getElem_toArray, List.getElem_cons_succ, List.getElem_cons_zero, Act.put, List.setIfInBounds_toArray, List.set_cons_zero, List.set_cons_succ]
      refine wpAnyT_take (i := 1) (oi := _) (v := (rp j)) rfl (by kernel_rfl) (fun _ _ _ h => h) (by kernel_rfl) (fun wq hq => rfl) hS ?_
      try simp only [List.getElem_toArray, List.getElem_cons_succ, List.getElem_cons_zero, Act.put, List.setIfInBounds_toArray, List.set_cons_zero, List.set_cons_succ]
      refine wpAnyT_take (i := 2) (oi := _) (v := (.pointer (some ⟨j, 4, none⟩))) rfl (by kernel_rfl) (fun _ _ _ h => h) (by kernel_rfl) (fun wq hq => by go_simp) hS ?_
      try simp only [List.getElem_toArray, List.getElem_cons_succ, List.getElem_cons_zero, Act.put, List.setIfInBounds_toArray, List.set_cons_zero, List.set_cons_succ]
      refine wpAnyT_take (i := 3) (oi := _) (v := (.int .i64 (used : Int))) rfl (by kernel_rfl) (fun _ _ _ h => h) (by kernel_rfl) (fun wq hq => by have h : wq.cell? ⟨j, 4, none⟩ = some (.int .i64 (used : Int)) := (H9.out.2.2.1.below hq).c 4; go_simp) hS ?_
      try simp only [List.getElem_toArray, List.getElem_cons_succ, List.getElem_cons_zero, Act.put, List.setIfInBounds_toArray, List.set_cons_zero, List.set_cons_succ]
      refine wpAnyT_take (i := 4) (oi := _) (v := (.slice (some q) M c)) rfl (by kernel_rfl) (fun _ _ _ h => h) (by kernel_rfl) (fun wq hq => rfl) hS ?_
      try simp only [List.getElem_toArray, List.getElem_cons_succ, List.getElem_cons_zero, Act.put, List.setIfInBounds_toArray, List.set_cons_zero, List.set_cons_succ]
      refine wpAnyT_take (i := 5) (oi := _) (v := (.int .i64 (M : Int))) rfl (by kernel_rfl) (fun _ _ _ h => h) (by kernel_rfl) (fun wq hq => by go_simp) hS ?_
      try simp only [List.getElem_toArray, List.getElem_cons_succ, List.getElem_cons_zero, Act.put, List.setIfInBounds_toArray, List.set_cons_zero, List.set_cons_succ]
      refine wpAnyT_ready (rs := [6]) (by kernel_rfl) (by simp) ?_
      refine AllReadyT.cons rfl (by decide) (fun K hC => ?_) AllReadyT.nil
      go_simp
      go_wp2_with (go_at_call 73; apply Calls.mono; (· (with_reducible refine need_c M _ ?_); (· omega)); rintro e w10 ⟨rfl, hw⟩; rw [hw, H.out.2.2.2.2.2.2.2.2.1]; clear hw w10)
      refine hC.out _ _ hS ?_
      clear hC K
      try simp only [List.getElem_toArray, List.getElem_cons_succ, List.getElem_cons_zero, Act.put, List.setIfInBounds_toArray, List.set_cons_zero, List.set_cons_succ]
      have hsum : IntKind.i64.wrap ((used : Int) + (N : Int)) = ((used + N : Nat) : Int) := by rw [IntWalk.i64_in _ (by omega)]; omega
      refine wpAnyT_take (i := 7) (oi := _) (v := (.int .i64 ((used + N : Nat) : Int))) rfl (by kernel_rfl) (fun _ _ _ h => h) (by kernel_rfl) (fun wq hq => by go_simp) hS ?_
      try simp only [List.getElem_toArray, List.getElem_cons_succ, List.getElem_cons_zero, Act.put, List.setIfInBounds_toArray, List.set_cons_zero, List.set_cons_succ]
      clear hsum
      refine wpAnyT_tail (by kernel_rfl) ?_
      try simp only [List.getElem_toArray, List.getElem_cons_succ, List.getElem_cons_zero, Act.put, List.setIfInBounds_toArray, List.set_cons_zero, List.set_cons_succ]
      have hj10 := H9.out.2.2.1.below hS
      have f10 := hj10.fr 4
      have d10 : u0.cell? ⟨j, 4, none⟩ = some (.int .i64 (used : Int)) := hj10.c 4
      go_upto_region 11 with (fail)
      refine wp_world (fun W10 => Boxed W10 (w.heap.size + 1) 23 (.int .i64 0) ∧ Blk W10 j 104 (jrV r (.slice p8 (E.length + 1) c8) (used + N)) ∧ RwI W10 (fun x => P x ∧ x < w.heap.size ∨ w.heap.size ≤ x ∧ x ≠ w.heap.size + 1 ∧ x ≠ D) (.slice p8 (E.length + 1) c8) (E ++ [b]) ∧ DiskI W10 r g n (k + N) (splice L (AT * 64) (secsF 1 E.length b)) ∧ Only (fun y => P y ∨ y = j ∨ y = r ∨ y = g) w W10 ∧ W10.heap[D]? = some (Obj.deferred (some []))) ?_ ?_
      · have ho9 : Only (fun y => y = j) u0 (u0.setCell ⟨j, 4, none⟩ (.int .i64 ((used + N : Nat) : Int))) := (Only.refl (fun y => y = j) u0).setCell _ _ (.inl rfl)
        have hjl := H.out.1.lt
        have hjn := H.out.2.2.2.1
        have hof : Only (fun _ => False) W9 u0 := Only.of_below hS
        have hD9 : D < W9.heap.size := (Array.getElem?_eq_some_iff.1 H9.out.2.2.2.2.2.2).1
        have hs9 := hS.size
        have hb10 := hj10.set 4 (.int .i64 ((used + N : Nat) : Int))
        rw [jrV_set4] at hb10
        have hDl3 := HE.out.2.2.2.2.2.2.2.1
        exact ⟨boxed_only (boxed_only H9.out.2.1 hof (fun h => h)) ho9 (by omega), hb10, (H9.out.2.2.2.1.keep hof (fun _ _ h => h)).keep ho9 (fun y hy e => by subst e; rcases hy with hy | hy; (· exact hnp.1 hy.1); (· omega)), (H9.out.2.2.2.2.1.below hS).only ho9 (by omega) (by omega), (H9.out.2.2.2.2.2.1.then (Only.of_below hS)).then (ho9.mono (fun y _ e => .inr (.inl e))), (ho9.block D (by omega) (by omega)).trans ((hof.block D hD9 (fun h => h)).trans H9.out.2.2.2.2.2.2)⟩
      intro W10 hW10
      have H10 := Lib.hid hW10
      clear hW10 hj10 f10 d10 hS H9
      have c11 := H10.out.1.cell
      have f11 := H10.out.1.frozen
      go_wp2
      have ho11 : Only (fun y => y = w.heap.size + 1) W10 (W10.setCell ⟨w.heap.size + 1, 0, none⟩ (.int .i64 0)) := (Only.refl (fun y => y = w.heap.size + 1) W10).setCell _ _ (.inl rfl)
      have hr11 := (H10.out.1.set (.int .i64 0)).cell
      have hDl3 := HE.out.2.2.2.2.2.2.2.1
      have hD10 : D < W10.heap.size := (Array.getElem?_eq_some_iff.1 H10.out.2.2.2.2.2).1
      have hK11 := (ho11.block D hD10 (by omega)).trans H10.out.2.2.2.2.2
      have hjl := H.out.1.lt
      have hdl := H.out.2.2.1
      have hdr := hdl.b.lt
      have hdg := hdl.s.lt
      have ho12 : Only (fun y => y = D) (W10.setCell ⟨w.heap.size + 1, 0, none⟩ (.int .i64 0)) ((W10.setCell ⟨w.heap.size + 1, 0, none⟩ (.int .i64 0)).putObj D (.deferred none)) := (Only.of_grown (grownBy_putObj' _ D (.deferred none))).mono (fun y _ e => by cases e; rfl)
      have hoF : Only (fun y => y = w.heap.size + 1 ∨ y = D) W10 ((W10.setCell ⟨w.heap.size + 1, 0, none⟩ (.int .i64 0)).putObj D (.deferred none)) := (ho11.mono (fun y _ e => .inl e)).then (ho12.mono (fun y _ e => .inr e))
      have hrF := (boxed_only (H10.out.1.set (.int .i64 0)) ho12 (by omega)).cell
      refine ⟨by simp, .inl ⟨_, _, rfl, run_takeDeferred hK11, ?_⟩⟩
      refine ⟨_, results_c1 6 Tryz.results84 _ _ (w.heap.size + 1) 0 rfl hrF, rfl, ?_, ?_⟩
      · rw [H.out.2.2.2.2.2.2.2.1, H.out.2.2.2.2.2.2.2.2.1, ← H4.out.2.2.2.2.2.2.1]
        refine ⟨⟨p8, c8, ?_, ?_⟩, H10.out.2.2.2.1.only hoF (by omega) (by omega), H.out.2.2.2.1, ⟨?_, ?_, ?_⟩⟩
        · rw [List.length_append]; exact H10.out.2.1.only hoF (by omega)
        · rw [List.length_append]
          exact (H10.out.2.2.1.keep hoF (fun y hy e => by omega)).mono (fun y hy => by rcases hy with hy | hy; (· exact .inl hy.1); (· exact .inr hy.1))
        · intro h; rcases h with h | h; (· exact hnp.1 h); (· omega)
        · intro h; rcases h with h | h; (· exact hnp.2.1 h); (· omega)
        · intro h; rcases h with h | h; (· exact hnp.2.2 h); (· omega)
      · exact H10.out.2.2.2.2.1.trans hoF (fun _ h => h) (fun y hy e => by omega)
    case stop =>
      rintro D c pre W _ _ h _
      exact h.elim
end Go.Proofs.YtolgaapiedbkfaaGreat
