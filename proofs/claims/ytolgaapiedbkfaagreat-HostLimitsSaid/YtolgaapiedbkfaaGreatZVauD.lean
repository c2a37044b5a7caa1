/-
  The contract of vault's Open, of what Seal tells. Conditions: as in Seal.
-/
import Derived.Test.YtolgaapiedbkfaaGreatZg6
namespace Go.Kx
open Go.RowKit
theorem hAll1 {P : Program} {ops : Array Oper} {Q : Exit → Act → World → Prop} {S : World → Prop} {fuel : Nat} {listed : Array Bool} {a : Act} {w : World} {i : Nat} {o : Oper} (ho : ops[i]? = some o)
    (h : ∀ K' : Act → World → Prop, ShutT (∀ a w, S w → wpAnyH P .any ops Q S fuel (listed.setIfInBounds i true) a w → K' a w) → if Region.wanted o (yielded ops a.tmps) = true then Oper.wp P o a w K' Q else K' (a.put o.dst undef) w) :
    ∀ j ∈ [i], wpOp P ops Q j (fun a' w' => S w' ∧ wpAnyH P .any ops Q S fuel (listed.setIfInBounds j true) a' w') a w := by
  intro j hj
  rw [List.mem_singleton] at hj
  subst hj
  exact wpOp_step ho (fun K' hK => h K' (fun a w hS hW => hK a w ⟨hS, hW⟩))
end Go.Kx
namespace Go.Proofs.YtolgaapiedbkfaaGreat
open Go.RowKit Go.Kx
set_option linter.unusedVariables false
set_option linter.unusedSimpArgs false
set_option maxRecDepth 100000
theorem results_ctt {P : Program} {fn : Func} (p u v : Tmp) {ty : TypeId} (h : fn.results = #[.cell p ty, .tmp u, .tmp v]) (tmps : Array Value) (w : World) (g : Nat) (t : TypeId) (cs : Array Value) (d : TypeDesc) (U V : Value)
    (hp : tmps.getD p undef = .pointer (some ⟨g, 0, none⟩)) (hU : tmps.getD u undef = U) (hV : tmps.getD v undef = V) (hg : Blk w g t cs)
    (hu : P.underlying ty = some d) (hd : (match d with | .struct _ | .array _ _ => true | _ => false) = true) (hi : (P.info? ty).map (·.size) = some cs.size) :
    (results fn tmps).run P w = .ok (.tuple #[.agg cs, U, V]) w := by
  subst hU hV
  have hp' : tmps[p]?.getD undef = .pointer (some ⟨g, 0, none⟩) := by simpa using hp
  simp [results, h, hp', asAddr, run_loadVar_row w g t ty cs (0, 0) d hg hu hd hi]
/-- What Open tells. -/
def VopR (w : World) (a b c : Nat) (l : List UInt8) (e : Ending) (w' : World) : Prop := ∃ p n k, e = .returned (.tuple #[.agg (noV a b c), .slice p n k, .int .i64 0]) ∧ OB w' p n k l ∧ (∀ j, owB p n k j → w.heap.size ≤ j) ∧ Below w.heap.size w w'
structure VoI (w : World) (key : List UInt8) (W : World) : Prop where
  k : ArrB W w.heap.size 29 key
  n : Blk W (w.heap.size + 1) 94 (noV 0 0 0)
  b : Below w.heap.size w W
theorem VoI.below {w : World} {key : List UInt8} {W W' : World} (h : VoI w key W) (hb : Below W.heap.size W W') : VoI w key W' := ⟨h.k.below hb, h.n.below hb, h.b.trans (hb.mono h.b.size)⟩
theorem VoI.first (w : World) (key : List UInt8) : VoI w key ((w.alloc (.cells (key.map B8).toArray 29)).alloc (.cells (noV 0 0 0) 94)) := by
  have a2 := Blk.new (w.alloc (.cells (key.map B8).toArray 29)) 94 (noV 0 0 0)
  rw [World.size_alloc] at a2
  exact ⟨(ArrB.new w _ key).below ((Below.refl _ _).alloc (Nat.le_refl _) _), a2, ((Below.refl _ w).alloc (Nat.le_refl _) _).alloc (by simp) _⟩
set_option maxHeartbeats 8000000 in
theorem vOpen_c (key : List UInt8) (a b c : Nat) (T : Nat → Prop) (g o m M k : Nat) (tx : List UInt8) (w : World) (hk : key.length = 32) (hno : okNo a b c) (hR : Rd w T (some ⟨g, o, none⟩) (vSealF key a b c tx)) (hm : tx.length = m) (h0 : 0 < m) (hl : m ≤ 30000) (hM : M = m + 26) (hMk : M ≤ k) :
    Calls Tryz.prog 118 #[.agg (key.map B8).toArray, .slice (some ⟨g, o, none⟩) M k] w (VopR w a b c tx) := by
  have hkz : ((key.map B8).toArray).size = 32 := by simp [hk]
  have hsl : (sealF key (nonceF (noteB a b c)) tx (noteB a b c)).length = m + 16 := by unfold sealF aTagF; rw [List.length_append, strF_len, tagF_len, hm]
  have hVl : (noteB a b c ++ sealF key (nonceF (noteB a b c)) tx (noteB a b c)).length = M := by rw [List.length_append, noteB_len, hsl]; omega
  have H := Lib.hid (And.intro hno (And.intro hR (And.intro hm (And.intro h0 (And.intro hl (And.intro hVl hsl))))))
  have k1 : 10 ≤ M := by omega
  have k2 : (10 : Int) ≤ (M : Int) := by omega
  have k3 : 10 ≤ k := by omega
  have k4 : (10 : Int) ≤ (k : Int) := by omega
  have k5 : ¬ (k = 10) := by omega
  have hMM := Lib.hid (And.intro hM hMk)
  clear hno hR hm h0 hl hM hMk hVl hsl
  go_enter Tryz.func118, Tryz.ntmps118
  go_upto_region 1 with (fail)
  refine wp_world (VoI w key) (VoI.first w key) ?_
  intro W0 hI0
  have I0 := Lib.hid hI0
  clear hI0
  have hNl := nonceF_len (noteB a b c) (by rw [noteB_len]; omega)
  go_upto_region 4 with (first
    | (go_at_call 152; apply Calls.mono; (· (with_reducible refine vRead_c a b c (sealF key (nonceF (noteB a b c)) tx (noteB a b c)) T (some ⟨g, o, none⟩) M k _ ?_ ?_ ?_ ?_ ?_ ?_); (· exact H.out.1); (· exact H.out.2.1.below I0.out.b); (· intro h; cases h); (· exact H.out.2.2.2.2.2.1); (· have := hMM.out.1; have := H.out.2.2.2.1; omega); (· have := hMM.out.1; have := H.out.2.2.2.2.1; omega)); rintro e w1 ⟨rfl, b1⟩)
    | (refine st_no rfl (.tmp 7) (.tmp 13) rfl w1.heap.size rfl rfl (Blk.new w1 94 (noV 0 0 0)) ?_; intro w2 hA2 hO2))
  have b2 : Below W0.heap.size W0 w2 := below_only (b1.alloc b1.size (.cells (noV 0 0 0) 94)) (by rw [World.size_alloc]; have := b1.size; omega) hO2 (fun k hk e => by have := b1.size; omega)
  have I2 := Lib.hid (I0.out.below b2)
  have hG : w.heap.size + 1 < w1.heap.size := by have := b1.size; have := I0.out.n.lt; omega
  clear b1 hO2 b2 I0
  generalize w1.heap.size = G at *
  have hr : ∀ {wx : World}, Below w2.heap.size w2 wx → Rd wx T (some ⟨g, o, none⟩) (vSealF key a b c tx) := fun hb => (H.out.2.1.below I2.out.b).below hb
  have hrn : ∀ {wx : World}, Below w2.heap.size w2 wx → Rd wx T (some ⟨g, o, none⟩) (noteB a b c) := fun hb => by
    have h := rd_take (hr hb) 10
    rwa [vSealF, List.take_left' (noteB_len a b c)] at h
  have hrs : ∀ {wx : World}, Below w2.heap.size w2 wx → Rd wx T (some ⟨g, o + 10, none⟩) (sealF key (nonceF (noteB a b c)) tx (noteB a b c)) := fun hb => by
    have h := rd_drop (k := 10) (hr hb)
    rwa [vSealF, List.drop_left' (noteB_len a b c)] at h
  have hMeq := hMM.out.1
  have hMk := hMM.out.2
  refine wp_region_held (S := fun wx => Below w2.heap.size w2 wx) (by kernel_rfl) ?_
  try simp only [List.drop_succ_cons, List.drop_zero]
  obtain ⟨u0, hu0⟩ : ∃ u : World, u = { w2 with drawn := w2.drawn + 1 } := ⟨_, rfl⟩
  have hS : Below w2.heap.size w2 u0 := by rw [hu0]; exact (Below.refl _ w2).drew
  rw [← hu0]
  clear hu0
  try simp only [Act.put]
  refine wpAnyH_take (i := 0) (oi := _) (v := (.agg (key.map B8).toArray)) rfl (by kernel_rfl) (by kernel_rfl) (by kernel_rfl) (fun _ _ _ h => h) (.inl ⟨by kernel_rfl, (fun wq hq => run_ldB (I2.out.k.below hq) Tryz.underlying29 Tryz.infoB32 hk rfl)⟩) hS ?_
  try simp only [List.getElem_toArray, List.getElem_cons_succ, List.getElem_cons_zero, Act.put, List.setIfInBounds_toArray, List.set_cons_zero, List.set_cons_succ]
  refine wpAnyH_take (i := 1) (oi := _) (v := (.slice (some ⟨g, o, none⟩) M k)) rfl (by kernel_rfl) (by kernel_rfl) (by kernel_rfl) (fun _ _ _ h => h) (.inl ⟨by kernel_rfl, (fun wq hq => rfl)⟩) hS ?_
  try simp only [List.getElem_toArray, List.getElem_cons_succ, List.getElem_cons_zero, Act.put, List.setIfInBounds_toArray, List.set_cons_zero, List.set_cons_succ]
  refine wpAnyH_take (i := 3) (oi := _) (v := (.slice (some ⟨g, o, none⟩) M k)) rfl (by kernel_rfl) (by kernel_rfl) (by kernel_rfl) (fun _ _ _ h => h) (.inl ⟨by kernel_rfl, (fun wq hq => rfl)⟩) hS ?_
  try simp only [List.getElem_toArray, List.getElem_cons_succ, List.getElem_cons_zero, Act.put, List.setIfInBounds_toArray, List.set_cons_zero, List.set_cons_succ]
  refine wpAnyH_take (i := 5) (oi := _) (v := (.slice (some ⟨g, o, none⟩) M k)) rfl (by kernel_rfl) (by kernel_rfl) (by kernel_rfl) (fun _ _ _ h => h) (.inl ⟨by kernel_rfl, (fun wq hq => rfl)⟩) hS ?_
  try simp only [List.getElem_toArray, List.getElem_cons_succ, List.getElem_cons_zero, Act.put, List.setIfInBounds_toArray, List.set_cons_zero, List.set_cons_succ]
  refine wpAnyH_take (i := 4) (oi := _) (v := (.slice (some ⟨g, o + 10, none⟩) (M - 10) (k - 10))) rfl (by kernel_rfl) (by kernel_rfl) (by kernel_rfl) (fun _ _ _ h => h) (.inl ⟨by kernel_rfl, (fun wq hq => by clear hMeq; go_simp)⟩) hS ?_
  try simp only [List.getElem_toArray, List.getElem_cons_succ, List.getElem_cons_zero, Act.put, List.setIfInBounds_toArray, List.set_cons_zero, List.set_cons_succ]
  refine wpAnyH_take (i := 6) (oi := _) (v := (.slice (some ⟨g, o, none⟩) 10 k)) rfl (by kernel_rfl) (by kernel_rfl) (by kernel_rfl) (fun _ _ _ h => h) (.inl ⟨by kernel_rfl, (fun wq hq => by clear hMeq; go_simp)⟩) hS ?_
  try simp only [List.getElem_toArray, List.getElem_cons_succ, List.getElem_cons_zero, Act.put, List.setIfInBounds_toArray, List.set_cons_zero, List.set_cons_succ]
  clear hMeq hMk
  refine wpAnyH_all (rs := [2]) (by kernel_rfl) (by simp) ?_
  refine hAll1 rfl (fun K hC => ?_)
  go_simp
  go_wp2_with (go_at_call 64; apply Calls.mono; (· (with_reducible refine nonce_c T g o M k (vSealF key a b c tx) _ ?_ ?_ ?_ ?_); (· exact hr hS); (· exact H.out.2.2.2.2.2.1); (· omega); (· exact hMM.out.2)); rintro e w3 ⟨rfl, b3⟩)
  have hNN : nonceF (vSealF key a b c tx) = nonceF (noteB a b c) := by
    unfold nonceF vSealF
    rw [List.take_append_of_le_length (by rw [noteB_len]; omega)]
  rw [hNN]
  clear hNN
  have hS3 := hS.trans (b3.mono hS.size)
  refine hC.out _ _ hS3 ?_
  clear hC K
  try simp only [Act.put, List.setIfInBounds_toArray, List.set_cons_zero, List.set_cons_succ]
  refine wpAnyH_all (rs := [7]) (by kernel_rfl) (by simp) ?_
  refine hAll1 rfl (fun K hC => ?_)
  go_simp
  go_wp2_with (go_at_call 153; apply Calls.mono; (· (with_reducible refine aOpen_c key (nonceF (noteB a b c)) T g (o + 10) (k - 10) tx T (some ⟨g, o, none⟩) 10 k (noteB a b c) m (M - 10) _ ?_ ?_ ?_ ?_ ?_ ?_ ?_ ?_ ?_ ?_ ?_); (· exact hk); (· exact hNl); (· exact hrs hS3); (· exact H.out.2.2.1); (· have := hMM.out.1; omega); (· have := hMM.out.2; omega); (· exact H.out.2.2.2.1); (· exact hrn hS3); (· intro h; cases h); (· exact noteB_len _ _ _); (· rw [noteB_len]; have := H.out.2.2.1; have := H.out.2.2.2.2.1; omega)); rintro e w4 ⟨p4, n4, c4, rfl, h4, x4, b4⟩)
  have hsz3 := hS3.size
  have hS4 := hS3.trans (b4.mono hS3.size)
  refine hC.out _ _ hS4 ?_
  clear hC K
  try simp only [Act.put, List.setIfInBounds_toArray, List.set_cons_zero, List.set_cons_succ]
  refine wpAnyH_take (i := 8) (oi := _) (v := (.tuple #[.slice p4 n4 c4, .int .i64 0])) rfl (by kernel_rfl) (by kernel_rfl) (by kernel_rfl) (fun _ _ _ h => h) (.inl ⟨by kernel_rfl, (fun wq hq => rfl)⟩) hS4 ?_
  try simp only [List.getElem_toArray, List.getElem_cons_succ, List.getElem_cons_zero, Act.put, List.setIfInBounds_toArray, List.set_cons_zero, List.set_cons_succ]
  refine wpAnyH_take (i := 9) (oi := _) (v := (.slice p4 n4 c4)) rfl (by kernel_rfl) (by kernel_rfl) (by kernel_rfl) (fun _ _ _ h => h) (.inl ⟨by kernel_rfl, (fun wq hq => rfl)⟩) hS4 ?_
  try simp only [List.getElem_toArray, List.getElem_cons_succ, List.getElem_cons_zero, Act.put, List.setIfInBounds_toArray, List.set_cons_zero, List.set_cons_succ]
  refine wpAnyH_take (i := 10) (oi := _) (v := (.int .i64 0)) rfl (by kernel_rfl) (by kernel_rfl) (by kernel_rfl) (fun _ _ _ h => h) (.inl ⟨by kernel_rfl, (fun wq hq => rfl)⟩) hS4 ?_
  try simp only [List.getElem_toArray, List.getElem_cons_succ, List.getElem_cons_zero, Act.put, List.setIfInBounds_toArray, List.set_cons_zero, List.set_cons_succ]
  refine wpAnyH_take (i := 11) (oi := _) (v := (.slice p4 n4 c4)) rfl (by kernel_rfl) (by kernel_rfl) (by kernel_rfl) (fun _ _ _ h => h) (.inl ⟨by kernel_rfl, (fun wq hq => rfl)⟩) hS4 ?_
  try simp only [List.getElem_toArray, List.getElem_cons_succ, List.getElem_cons_zero, Act.put, List.setIfInBounds_toArray, List.set_cons_zero, List.set_cons_succ]
  refine wpAnyH_take (i := 12) (oi := _) (v := (.int .i64 0)) rfl (by kernel_rfl) (by kernel_rfl) (by kernel_rfl) (fun _ _ _ h => h) (.inl ⟨by kernel_rfl, (fun wq hq => rfl)⟩) hS4 ?_
  try simp only [List.getElem_toArray, List.getElem_cons_succ, List.getElem_cons_zero, Act.put, List.setIfInBounds_toArray, List.set_cons_zero, List.set_cons_succ]
  refine wpAnyH_done (by kernel_rfl) ?_ _
  have hbz := I2.out.b.trans (hS4.mono I2.out.b.size)
  have hA4 := hA2.below hS4
  have hO4 := I2.out.n.below hS4
  have hszw := I2.out.b.size
  have hszn := I2.out.n.lt
  clear hS hS3 b3 b4
  go_wp2_with (first
    | (refine ld_no rfl (.tmp 7) rfl G rfl hA4 ?_)
    | (refine st_no rfl (.tmp 4) (.tmp 33) rfl (w.heap.size + 1) rfl rfl hO4 ?_; intro w7 hA7 hO7))
  refine bodyPost_ret (v := .tuple #[.agg (noV a b c), .slice p4 n4 c4, .int .i64 0]) (results_ctt (P := Tryz.prog) 4 5 6 Tryz.results118 _ _ (w.heap.size + 1) _ _ _ (.slice p4 n4 c4) (.int .i64 0) rfl rfl rfl hA7 Tryz.underlying94 rfl Tryz.infoNo) rfl ?_
  exact ⟨p4, n4, c4, rfl, h4.only hO7 (fun k hk e => by have := x4 k hk; omega), fun k hk => (by have := x4 k hk; omega), below_only hbz hbz.size hO7 (fun k hk e => by omega)⟩
end Go.Proofs.YtolgaapiedbkfaaGreat
