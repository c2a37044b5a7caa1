/-
  The contract of host's Freeze on a connection of the start. Conditions: those of each theorem.
-/
import Derived.Test.YtolgaapiedbkfaaGreatZg11
import Derived.Test.YtolgaapiedbkfaaGreatZVauD
import Derived.Test.YtolgaapiedbkfaaGreatZSnH
namespace Go.Proofs.YtolgaapiedbkfaaGreat
open Go.RowKit Go.Kx Go.Maps
set_option linter.unusedVariables false
set_option linter.unusedSimpArgs false
set_option maxRecDepth 100000
/-- The State of the start. -/
def nS : St := ⟨0, [], List.replicate 224 0, 0, 0, 0, 0, false, [], [], -1⟩
theorem nS_ok : okS nS := by unfold okS nS; simp
theorem nS_is (w : World) : IsSt w nC nS := ⟨_, _, _, nC_ok, Sl.nil w, Sl.nil w, Sl.nil w⟩
def snX : List UInt8 := snB nS 3
theorem snX_len : snX.length = 240 := by kernel_rfl
theorem sput_n (w : World) : Calls Tryz.prog 28 #[.agg nC, .int .i64 3] w (SPutYes w snX) := sput_yes nS nC 3 w (nS_is w) nS_ok (by decide)
/-- What is sealed: nothing is left, and the State. -/
def frT : List UInt8 := be 0 2 ++ snX
def vK : List UInt8 := macF k7 [118, 97, 117, 108, 116]
def frE (c : Nat) : List UInt8 := vSealF vK 0 c 1 frT
theorem hoV_low (j : Nat) (ch : Value) (tk : List UInt8) (h : tk.length = 32) (mc mh cnt cnts : Nat) (sl : Value) (en : Bool) (x : Nat) (hx : x < 32) : (hoV j ch tk mc mh cnt cnts sl en)[1 + x]? = (k7.map B8)[x]? := by
  have hl : (k7.map B8).length = 32 := rfl
  unfold hoV
  rw [List.getElem?_toArray]
  simp only [List.append_assoc]
  rw [List.getElem?_append_right (by simp), show 1 + x - [rp j].length = x by simp, List.getElem?_append_left (by omega)]
theorem HI.key {w : World} {P : Nat → Prop} {h mc mh j r g n k used nc cnt cnts : Nat} {L : List UInt8} {E : List (List UInt8)} {f : Int → Option Nat} {had : List Int} {sl : Value} (hi : HI w P h mc mh j r g n k L E used f nc had cnt cnts sl) : w.rangeAt h 1 ((k7.map B8).toArray).toList := fun x v hx => by
  obtain ⟨ch, hb⟩ := hi.b
  have hj : x < 32 := by have := (List.getElem?_eq_some_iff.1 hx).1; simpa [k7] using this
  rw [hb.c, hoV_low j ch tkF tkF_len mc mh cnt cnts sl false x hj]
  simpa using hx
theorem frT_len : frT.length = 242 := by unfold frT; rw [List.length_append, be_length, snX_len]
theorem vec_nil (w : World) : Calls Tryz.prog 30 #[.slice none 0 0, .slice none 0 0, .int .i64 2] w (NewOB w (be 0 2)) :=
  (vec_yes (fun _ => False) (fun _ => False) none none 0 0 0 0 [] [] 2 w (Rd.nil _ _ _) (fun _ => rfl) rfl (Rd.nil _ _ _) (fun _ => rfl) rfl (by simp) (by decide) (by decide)).mono fun e w' h => by
    have h1 := h.new
    simpa using h1
theorem coV_234 : coV[234]? = some (.slice none 0 0) ∧ coV[235]? = some (.int .i64 0) := by
  unfold coV
  rw [List.getElem?_toArray, List.getElem?_toArray, List.getElem?_append_right (by simp [nC_size]), List.getElem?_append_right (by simp [nC_size])]
  simp [nC_size]
theorem Tryz.builtNo (c : Nat) : Tryz.prog.built 94 [(0, .int .i64 0), (1, .int .i64 (c : Int)), (2, .int .i64 1)] = some (noV 0 c 1) := by kernel_rfl
theorem bld_no1 {ρ : Operand → Value} {dst : Option Tmp} {x y z : Operand} {ty : TypeId} {pos : String} {after : Array Edge} {gd : Option (Nat × Bool)} {w : World} {c : Nat} (hx : ρ x = .int .i64 0) (hy : ρ y = .int .i64 (c : Int)) (hz : ρ z = .int .i64 1) :
    (execOp ρ ⟨dst, .build 94 #[(0, x), (1, y), (2, z)], ty, pos, after, gd⟩).run Tryz.prog w = .ok (.value (.agg (noV 0 c 1))) w := by
  unfold execOp
  simp only [hx, hy, hz, List.map_toArray, List.map_cons, List.map_nil]
  rw [Sem.run_bind, run_build w 94 _ _ (Tryz.builtNo c)]
  rfl
theorem kf_v (w : World) : Calls Tryz.prog 32 #[.agg (k7.map B8).toArray, .string ⟨#[118, 97, 117, 108, 116]⟩] w (BackR w (.agg (vK.map B8).toArray)) := keyFor_g k7 [118, 97, 117, 108, 116] ⟨#[118, 97, 117, 108, 116]⟩ w rfl k7_len (by decide) (by decide)
theorem vK_len : vK.length = 32 := macF_len _ _
theorem vs_c (c : Nat) (T : Nat → Prop) (ad : Addr) (k : Nat) (w : World) (hc : c ≤ 65535) (hR : Rd w T (some ad) frT) :
    Calls Tryz.prog 31 #[.agg (vK.map B8).toArray, .agg (noV 0 c 1), .slice (some ad) 242 k] w (OpenR w (frE c)) := vSeal_c vK 0 c 1 T ad 242 k frT w vK_len ⟨by decide, hc, by decide⟩ hR frT_len (by decide) (by decide)
theorem add_at (G j : Nat) : (⟨G, 0, none⟩ : Addr).add j = ⟨G, j, none⟩ := by
  unfold Addr.add
  split <;> simp_all
theorem frE_len (c : Nat) : (frE c).length = 268 := by
  unfold frE vSealF sealF aTagF
  rw [List.length_append, List.length_append, noteB_len, strF_len, tagF_len, frT_len]
theorem frE_four (c i : Nat) (h : i < 4) : (frE c)[i]? = some 0 := by
  have e : frE c = [0, 0, 0, 0] ++ ((be c 2 ++ be 1 4) ++ sealF vK (nonceF (noteB 0 c 1)) frT (noteB 0 c 1)) := by
    unfold frE vSealF noteB
    rw [show be 0 4 = [0, 0, 0, 0] by decide]
    simp only [List.append_assoc]
  rw [e, List.getElem?_append_left (by simpa using h)]
  have : i = 0 ∨ i = 1 ∨ i = 2 ∨ i = 3 := by omega
  rcases this with rfl | rfl | rfl | rfl <;> rfl
/-- A seal that was done. -/
def slC : Array Value := (vK.map B8 ++ List.replicate 12 (Value.int .u8 0)).toArray
theorem slC_size : slC.size = 44 := by unfold slC; rw [List.size_toArray, List.length_append, List.length_map, vK_len, List.length_replicate]
theorem slC_one : ∀ u ∈ slC.toList, u.oneCell' = true := by
  intro u hu
  unfold slC at hu
  rw [List.mem_append, List.mem_map] at hu
  rcases hu with ⟨b, _, rfl⟩ | hu
  · rfl
  · rw [(List.mem_replicate.1 hu).2]; rfl
theorem Tryz.built12 : Tryz.prog.built 95 [(8, .int .u8 0), (9, .int .u8 0), (10, .int .u8 0), (11, .int .u8 0)] = some (List.replicate 12 (Value.int .u8 0)).toArray := by kernel_rfl
theorem Tryz.builtSl' (tk : List UInt8) (h : tk.length = 32) : Tryz.prog.built 97 [(0, .agg (tk.map B8).toArray), (1, .agg (List.replicate 12 (Value.int .u8 0)).toArray)] = some (tk.map B8 ++ List.replicate 12 (Value.int .u8 0)).toArray := by
  obtain ⟨t0, t1, t2, t3, t4, t5, t6, t7, t8, t9, t10, t11, t12, t13, t14, t15, t16, t17, t18, t19, t20, t21, t22, t23, t24, t25, t26, t27, t28, t29, t30, t31, rfl⟩ := list32 tk h
  kernel_rfl
theorem Tryz.builtSl : Tryz.prog.built 97 [(0, .agg (vK.map B8).toArray), (1, .agg (List.replicate 12 (Value.int .u8 0)).toArray)] = some slC := Tryz.builtSl' vK vK_len
theorem bld_12 {ρ : Operand → Value} {dst : Option Tmp} {x y z u : Operand} {ty : TypeId} {pos : String} {after : Array Edge} {gd : Option (Nat × Bool)} {w : World} (hx : ρ x = .int .u8 0) (hy : ρ y = .int .u8 0) (hz : ρ z = .int .u8 0) (hu : ρ u = .int .u8 0) :
    (execOp ρ ⟨dst, .build 95 #[(8, x), (9, y), (10, z), (11, u)], ty, pos, after, gd⟩).run Tryz.prog w = .ok (.value (.agg (List.replicate 12 (Value.int .u8 0)).toArray)) w := by
  unfold execOp
  simp only [hx, hy, hz, hu, List.map_toArray, List.map_cons, List.map_nil]
  rw [Sem.run_bind, run_build w 95 _ _ Tryz.built12]
  rfl
theorem bld_sl {ρ : Operand → Value} {dst : Option Tmp} {x y : Operand} {ty : TypeId} {pos : String} {after : Array Edge} {gd : Option (Nat × Bool)} {w : World} (hx : ρ x = .agg (vK.map B8).toArray) (hy : ρ y = .agg (List.replicate 12 (Value.int .u8 0)).toArray) :
    (execOp ρ ⟨dst, .build 97 #[(0, x), (1, y)], ty, pos, after, gd⟩).run Tryz.prog w = .ok (.value (.agg slC)) w := by
  unfold execOp
  simp only [hx, hy, List.map_toArray, List.map_cons, List.map_nil]
  rw [Sem.run_bind, run_build w 97 _ _ Tryz.builtSl]
  rfl
theorem infoSl : (Tryz.prog.info? 97).map (fun i => (i.zero, i.size, i.bytes)) = some (some (.agg (List.replicate 44 (Value.int .u8 0)).toArray), 44, 44) := by kernel_rfl
theorem app_sl (w : World) (ty : TypeId) (G : Nat) (hb : Blk w G 97 slC) : ∃ p c w', (Builtin.append_ #[62, 62] ty #[.slice none 0 0, .slice (some ⟨G, 0, none⟩) 1 1]).run Tryz.prog w = .ok (.slice p 1 c) w' ∧ Below w.heap.size w w' := by
  obtain ⟨g', v', w', hr, hrow, _, hgr, _⟩ := run_append_row (P := Tryz.prog) w 62 ty 97 _ 44 44 (by kernel_rfl) infoSl (by simp [Value.cells]) (by decide) w.heap.size (.slice none 0 0) 0 [] ⟨World.ownsRow_nil _ _ _ _, .inl rfl⟩ ⟨G, 0, none⟩ 1 1 slC.toList (by rw [Array.length_toList, slC_size]) (fun j u hj => by
    rw [add_at G j, hb.c, ← Array.getElem?_toList]
    exact hj) slC_one (by unfold maxLen; omega) (by omega)
  obtain ⟨p', c', rfl, _⟩ := Row.form hrow
  exact ⟨p', c', w', hr, ⟨hgr.os, hgr.tape, hgr.output, hgr.size, fun k hk => hgr.block k hk (by simp [Value.ownBlock])⟩⟩
theorem entry_32 (c : Nat) (w : World) (hc : c < 65536) : Calls Tryz.prog 19 #[.int .i64 3, .int .i64 (c : Int), .int .i64 2] w (NewOB w (3 :: be c 2)) := entry_2 3 c w (by decide) hc
/-- What Freeze tells. -/
def FrzR (P0 : Nat → Prop) (h mc mh j r g n k b : Nat) (L : List UInt8) (E : List (List UInt8)) (used c : Nat) (w : World) (e : Ending) (w' : World) : Prop :=
  e = .returned (.int .i64 0) ∧ ∃ P, JI w' P j r g n (k + 6) (splice (splice L ((2 + used) * 64) (secsF 1 E.length (2 :: be 8 4))) ((2 + (used + 1)) * 64) (secsF 1 (E.length + 1) (3 :: be c 2 ++ frE c))) (E ++ [2 :: be 8 4] ++ [3 :: be c 2 ++ frE c]) (used + 6) ∧ w'.cell? ⟨h, 73, none⟩ = some (.bool false) ∧ Only (fun x => P0 x ∨ x = h ∨ x = b ∨ x = j ∨ x = r ∨ x = g) w w'
set_option maxHeartbeats 8000000 in
theorem freeze_c (P : Nat → Prop) (h mc mh j r g n k used nc c b : Nat) (L : List UInt8) (E : List (List UInt8)) (f : Int → Option Nat) (had : List Int) (w : World) (hi : HI w P h mc mh j r g n k L E used f nc had 0 0 (.slice none 0 0))
    (h4 : 4 ≤ n) (hc : c ≤ 65535) (hf : f (c : Int) = some b) (hu : used + 6 ≤ areaF n) (hE : E.length ≤ 900) (hk : k ≤ 900) :
    Calls Tryz.prog 13 #[rp h, .int .i64 (c : Int)] w (FrzR P h mc mh j r g n k b L E used c w) := by
  have H := Lib.hid (And.intro hi.low (And.intro hf (And.intro hE (And.intro hk hu))))
  have hcr := coV_range (hi.co (c : Int) b hf).1
  clear hi hf hE hk hu
  go_enter Tryz.func13, Tryz.ntmps13
  go_upto_region 4 with (go_at_call 27; apply Calls.mono; (· (with_reducible refine hmay_yes h c b mc f nc _ ?_ ?_ ?_ ?_ ?_); (· exact H.out.1.g.2.2.2.2.2.2); (· exact H.out.1.g.2.1); (· exact H.out.1.c); (· omega); (· exact H.out.2.1)); rintro e w1 ⟨rfl, hw1⟩; rw [hw1]; clear hw1 w1)
  go_upto_region 7 with (first
    | (refine wpList_load_mid rfl 71 (.tmp 24) rfl b 0 rfl nC.toList _ hcr Tryz.underlying71 rfl (by rw [Array.length_toList, nC_size]; exact Tryz.infoS) ?_)
    | (go_at_call 28; apply Calls.mono; (· (with_reducible exact sput_n _)); rintro e w2 ⟨gT, nT, cT, rfl, lT, x1, x2, x3, x4, oT, b2⟩))
  rw [snX_len] at lT
  subst lT
  have HT := Lib.hid (And.intro x1 (And.intro x2 (And.intro x3 (And.intro x4 (And.intro oT b2)))))
  clear x1 x2 x3 x4 oT b2 hcr
  go_upto_region 10 with (go_at_call 29; apply Calls.mono; (· (with_reducible refine next_c (fun x => P x ∧ x < w.heap.size) h mc mh j r g n k used nc L E f had (.slice none 0 0) _ ?_ ?_ ?_ ?_ ?_); (· exact H.out.1.below HT.out.2.2.2.2.2); (· exact h4); (· have := H.out.2.2.2.2; omega); (· have := H.out.2.2.1; omega); (· have := H.out.2.2.2.1; omega)); rintro e w3 ⟨rfl, P3, hP3, hi3, hO3⟩)
  obtain ⟨P3, hP3, hi3⟩ : ∃ Q : Nat → Prop, (∀ x, Q x → ((P x ∧ x < w.heap.size) ∨ w2.heap.size ≤ x) ∧ x < w3.heap.size) ∧ HI w3 Q h mc mh j r g n (k + 1) (splice L ((2 + used) * 64) (secsF 1 E.length (2 :: be 8 4))) (E ++ [2 :: be 8 4]) (used + 1) f nc had 1 8 (.slice none 0 0) := ⟨_, fun x hx => ⟨hP3 x hx.1, hx.2⟩, hi3.low⟩
  have hs2 := HT.out.2.2.2.2.2.size
  have hjl := H.out.1.J.lt
  have hrl := H.out.1.J.d.b.lt
  have hgl := H.out.1.J.d.s.lt
  have hhl : h < w.heap.size := by obtain ⟨ch, hb⟩ := H.out.1.b; exact hb.lt
  have hgT := HT.out.1
  have hTw : ¬ ((P gT ∧ gT < w.heap.size) ∨ gT = h ∨ gT = j ∨ gT = r ∨ gT = g) := by
    intro e; rcases e with e | e
    · have := e.2; omega
    · omega
  obtain ⟨obT, obTg⟩ := OB.of_own HT.out.2.2.2.2.1
  have obT3 := obT.only hO3 (fun x hx => (by rw [obTg x hx]; exact hTw))
  have hP3' : ¬ P3 gT := fun e => by
    rcases (hP3 gT e).1 with e | e
    · have := e.2; omega
    · have := HT.out.2.1; omega
  have hO03 : Only (fun x => (P x ∧ x < w.heap.size) ∨ x = h ∨ x = j ∨ x = r ∨ x = g) w w3 := (Only.of_below HT.out.2.2.2.2.2).then hO3
  have hs3 := hO3.size
  have H3 := Lib.hid (And.intro hi3 (And.intro hO03 (And.intro obT3 (And.intro (And.intro obTg hP3') (And.intro hP3 hs3)))))
  have e234 : w3.cell? ⟨b, 234, none⟩ = some (.slice none 0 0) := ((hi3.co (c : Int) b H.out.2.1).1.c 234).trans coV_234.1
  have hi3l : h < w3.heap.size ∧ mc < w3.heap.size ∧ mh < w3.heap.size ∧ j < w3.heap.size ∧ r < w3.heap.size ∧ g < w3.heap.size := by
    obtain ⟨ch, hb⟩ := hi3.b
    exact ⟨hb.lt, hi3.c.lt, hi3.d.lt, hi3.J.lt, hi3.J.d.b.lt, hi3.J.d.s.lt⟩
  clear hi3 hO3 hO03 obT obTg obT3 hP3 hP3' hTw hs2 hs3
  go_upto_region 11 with (go_at_call 30; apply Calls.mono; (· (with_reducible exact vec_nil _)); rintro e w4 ⟨p4, n4, c4, rfl, h4o, x4, b4⟩; have hn4 := h4o.len; rw [be_length] at hn4; subst hn4; clear e234)
  have H4 := Lib.hid (And.intro (H3.out.1.below b4) (And.intro (H3.out.2.2.1.below b4) (And.intro h4o (And.intro x4 b4))))
  clear h4o x4 b4
  refine wp_region_tail (S := fun wx => HI wx P3 h mc mh j r g n (k + 1) (splice L ((2 + used) * 64) (secsF 1 E.length (2 :: be 8 4))) (E ++ [2 :: be 8 4]) (used + 1) f nc had 1 8 (.slice none 0 0)) (n := 21) (by kernel_rfl) (by decide) ?_
  try simp only [List.drop_succ_cons, List.drop_zero]
  obtain ⟨u0, hu0⟩ : ∃ u, u = w4.drew := ⟨_, rfl⟩
  have hB : Below w4.heap.size w4 u0 := by rw [hu0]; exact (Below.refl _ _).drew
  rw [← hu0]
  clear hu0
  have hS := H4.out.1.below hB
  try simp only [Act.put]
  refine wpAnyT_take (i := 0) (oi := _) (v := (rp h)) rfl (by kernel_rfl) (fun _ _ _ h => h) (by kernel_rfl) (fun wq hq => rfl) hS ?_
  try simp only [List.getElem_toArray, List.getElem_cons_succ, List.getElem_cons_zero, Act.put, List.setIfInBounds_toArray, List.set_cons_zero, List.set_cons_succ]
  refine wpAnyT_take (i := 1) (oi := _) (v := (rp h)) rfl (by kernel_rfl) (fun _ _ _ h => h) (by kernel_rfl) (fun wq hq => rfl) hS ?_
  try simp only [List.getElem_toArray, List.getElem_cons_succ, List.getElem_cons_zero, Act.put, List.setIfInBounds_toArray, List.set_cons_zero, List.set_cons_succ]
  refine wpAnyT_take (i := 2) (oi := _) (v := (.pointer (some ⟨h, 1, none⟩))) rfl (by kernel_rfl) (fun _ _ _ h => h) (by kernel_rfl) (fun wq hq => by go_simp) hS ?_
  try simp only [List.getElem_toArray, List.getElem_cons_succ, List.getElem_cons_zero, Act.put, List.setIfInBounds_toArray, List.set_cons_zero, List.set_cons_succ]
  refine wpAnyT_take (i := 3) (oi := _) (v := (.agg (k7.map B8).toArray)) rfl (by kernel_rfl) (fun _ _ _ h => h) (by kernel_rfl) (fun wq hq => ex_load_mid 29 (.tmp 48) rfl h 1 rfl (k7.map B8).toArray _ hq.key Tryz.underlying29 rfl Tryz.infoB32) hS ?_
  try simp only [List.getElem_toArray, List.getElem_cons_succ, List.getElem_cons_zero, Act.put, List.setIfInBounds_toArray, List.set_cons_zero, List.set_cons_succ]
  refine wpAnyT_take (i := 5) (oi := _) (v := (.int .i64 0)) rfl (by kernel_rfl) (fun _ _ _ h => h) (by kernel_rfl) (fun wq hq => rfl) hS ?_
  try simp only [List.getElem_toArray, List.getElem_cons_succ, List.getElem_cons_zero, Act.put, List.setIfInBounds_toArray, List.set_cons_zero, List.set_cons_succ]
  refine wpAnyT_take (i := 6) (oi := _) (v := (.int .i64 (c : Int))) rfl (by kernel_rfl) (fun _ _ _ h => h) (by kernel_rfl) (fun wq hq => rfl) hS ?_
  try simp only [List.getElem_toArray, List.getElem_cons_succ, List.getElem_cons_zero, Act.put, List.setIfInBounds_toArray, List.set_cons_zero, List.set_cons_succ]
  refine wpAnyT_take (i := 7) (oi := _) (v := (rp b)) rfl (by kernel_rfl) (fun _ _ _ h => h) (by kernel_rfl) (fun wq hq => rfl) hS ?_
  try simp only [List.getElem_toArray, List.getElem_cons_succ, List.getElem_cons_zero, Act.put, List.setIfInBounds_toArray, List.set_cons_zero, List.set_cons_succ]
  refine wpAnyT_take (i := 8) (oi := _) (v := (rp b)) rfl (by kernel_rfl) (fun _ _ _ h => h) (by kernel_rfl) (fun wq hq => rfl) hS ?_
  try simp only [List.getElem_toArray, List.getElem_cons_succ, List.getElem_cons_zero, Act.put, List.setIfInBounds_toArray, List.set_cons_zero, List.set_cons_succ]
  refine wpAnyT_take (i := 9) (oi := _) (v := (.pointer (some ⟨b, 235, none⟩))) rfl (by kernel_rfl) (fun _ _ _ h => h) (by kernel_rfl) (fun wq hq => by go_simp) hS ?_
  try simp only [List.getElem_toArray, List.getElem_cons_succ, List.getElem_cons_zero, Act.put, List.setIfInBounds_toArray, List.set_cons_zero, List.set_cons_succ]
  refine wpAnyT_take (i := 10) (oi := _) (v := (.int .i64 0)) rfl (by kernel_rfl) (fun _ _ _ h => h) (by kernel_rfl) (fun wq hq => by have h : wq.cell? ⟨b, 235, none⟩ = some (.int .i64 0) := ((hq.co (c : Int) b H.out.2.1).1.c 235).trans coV_234.2; go_simp) hS ?_
  try simp only [List.getElem_toArray, List.getElem_cons_succ, List.getElem_cons_zero, Act.put, List.setIfInBounds_toArray, List.set_cons_zero, List.set_cons_succ]
  refine wpAnyT_take (i := 11) (oi := _) (v := (.int .i64 1)) rfl (by kernel_rfl) (fun _ _ _ h => h) (by kernel_rfl) (fun wq hq => rfl) hS ?_
  try simp only [List.getElem_toArray, List.getElem_cons_succ, List.getElem_cons_zero, Act.put, List.setIfInBounds_toArray, List.set_cons_zero, List.set_cons_succ]
  refine wpAnyT_take (i := 12) (oi := _) (v := (.agg (noV 0 c 1))) rfl (by kernel_rfl) (fun _ _ _ h => h) (by kernel_rfl) (fun wq hq => bld_no1 rfl rfl rfl) hS ?_
  try simp only [List.getElem_toArray, List.getElem_cons_succ, List.getElem_cons_zero, Act.put, List.setIfInBounds_toArray, List.set_cons_zero, List.set_cons_succ]
  refine wpAnyT_take (i := 13) (oi := _) (v := (.slice p4 2 c4)) rfl (by kernel_rfl) (fun _ _ _ h => h) (by kernel_rfl) (fun wq hq => rfl) hS ?_
  try simp only [List.getElem_toArray, List.getElem_cons_succ, List.getElem_cons_zero, Act.put, List.setIfInBounds_toArray, List.set_cons_zero, List.set_cons_succ]
  refine wpAnyT_take (i := 14) (oi := _) (v := (.slice (some ⟨gT, 0, none⟩) 240 cT)) rfl (by kernel_rfl) (fun _ _ _ h => h) (by kernel_rfl) (fun wq hq => rfl) hS ?_
  try simp only [List.getElem_toArray, List.getElem_cons_succ, List.getElem_cons_zero, Act.put, List.setIfInBounds_toArray, List.set_cons_zero, List.set_cons_succ]
  refine wpAnyT_ready (rs := [4]) (by kernel_rfl) (by simp) ?_
  refine AllReadyT.cons rfl (by decide) (fun K hC => ?_) AllReadyT.nil
  go_simp
  go_wp2_with (go_at_call 32; apply Calls.mono; (· (with_reducible exact kf_v _)); rintro e w5 ⟨rfl, b5⟩)
  have hB5 := hB.trans (b5.mono hB.size)
  refine hC.out _ _ (H4.out.1.below hB5) ?_
  clear hC K
  try simp only [Act.put, List.setIfInBounds_toArray, List.set_cons_zero, List.set_cons_succ]
  refine wpAnyT_ready (rs := [15]) (by kernel_rfl) (by simp) ?_
  refine AllReadyT.cons rfl (by decide) (fun K hC => ?_) AllReadyT.nil
  have hob5 := H4.out.2.1.below hB5
  refine step_app8 rfl _ _ rfl (H4.out.2.2.1.below hB5) rfl (fun k => owB (some ⟨gT, 0, none⟩) 240 cT k) (some ⟨gT, 0, none⟩) 240 cT _ rfl hob5.len hob5.rd hob5.nilc (by rw [be_length, snX_len]; omega) ?_
  intro p6 n6 c6 w6 h6 x6 hO6
  have hn6 := h6.len
  rw [List.length_append, be_length, snX_len] at hn6
  subst hn6
  obtain ⟨G6, rfl, hog6, hgl6⟩ := h6.pos (by decide)
  have hs4 := H4.out.2.2.2.2.size
  have hge4 : ∀ x, owB p4 2 c4 x → w3.heap.size ≤ x := fun x hx => H4.out.2.2.2.1 x hx
  have hs5 := hB5.size
  have hlt3 := hi3l
  have hi6 := (H4.out.1.below hB5).keep hO6 (fun x hx e => by have := hge4 x e; rcases hx with hx | hx; (· have := (H3.out.2.2.2.2.1 x hx).2; omega); (· omega)) (fun x y hx e => by have := hge4 y e; have := (H3.out.1.co x y hx).1.lt; omega)
  refine hC.out _ _ hi6 ?_
  clear hC K
  try simp only [List.getElem_toArray, List.getElem_cons_succ, List.getElem_cons_zero, Act.put, List.setIfInBounds_toArray, List.set_cons_zero, List.set_cons_succ]
  refine wpAnyT_ready (rs := [16]) (by kernel_rfl) (by simp) ?_
  refine AllReadyT.cons rfl (by decide) (fun K hC => ?_) AllReadyT.nil
  go_simp
  go_wp2_with (go_at_call 31; apply Calls.mono; (· (with_reducible refine vs_c c (fun k => owB (some ⟨G6, 0, none⟩) 242 c6 k) ⟨G6, 0, none⟩ c6 _ ?_ ?_); (· exact hc); (· exact h6.rd)); rintro e w7 ⟨p7, n7, c7, rfl, h7, x7, b7⟩)
  have hn7 := h7.len
  rw [frE_len] at hn7
  subst hn7
  obtain ⟨G7, rfl, hog7, hgl7⟩ := h7.pos (by decide)
  refine hC.out _ _ (hi6.below b7) ?_
  clear hC K
  try simp only [List.getElem_toArray, List.getElem_cons_succ, List.getElem_cons_zero, Act.put, List.setIfInBounds_toArray, List.set_cons_zero, List.set_cons_succ]
  have hi7 := hi6.below b7
  have hS := hi7
  refine wpAnyT_take (i := 17) (oi := _) (v := (.tuple #[.slice (some ⟨G7, 0, none⟩) 268 c7, .int .i64 0])) rfl (by kernel_rfl) (fun _ _ _ h => h) (by kernel_rfl) (fun wq hq => rfl) hS ?_
  try simp only [List.getElem_toArray, List.getElem_cons_succ, List.getElem_cons_zero, Act.put, List.setIfInBounds_toArray, List.set_cons_zero, List.set_cons_succ]
  refine wpAnyT_take (i := 18) (oi := _) (v := (.slice (some ⟨G7, 0, none⟩) 268 c7)) rfl (by kernel_rfl) (fun _ _ _ h => h) (by kernel_rfl) (fun wq hq => rfl) hS ?_
  try simp only [List.getElem_toArray, List.getElem_cons_succ, List.getElem_cons_zero, Act.put, List.setIfInBounds_toArray, List.set_cons_zero, List.set_cons_succ]
  refine wpAnyT_take (i := 19) (oi := _) (v := (.int .i64 0)) rfl (by kernel_rfl) (fun _ _ _ h => h) (by kernel_rfl) (fun wq hq => rfl) hS ?_
  try simp only [List.getElem_toArray, List.getElem_cons_succ, List.getElem_cons_zero, Act.put, List.setIfInBounds_toArray, List.set_cons_zero, List.set_cons_succ]
  refine wpAnyT_take (i := 20) (oi := _) (v := (.slice (some ⟨G7, 0, none⟩) 268 c7)) rfl (by kernel_rfl) (fun _ _ _ h => h) (by kernel_rfl) (fun wq hq => rfl) hS ?_
  try simp only [List.getElem_toArray, List.getElem_cons_succ, List.getElem_cons_zero, Act.put, List.setIfInBounds_toArray, List.set_cons_zero, List.set_cons_succ]
  refine wpAnyT_tail (by kernel_rfl) ?_
  have hs6 := hO6.size
  have hO37 : Only (fun _ => False) w3 w7 := ((Only.of_below (H4.out.2.2.2.2.trans (hB5.mono hs4))).trans (hO6.trans (Only.of_below b7 : Only (fun _ => False) _ _) (fun _ h => h) (fun _ _ h => h.elim)) (fun _ h => h) (fun x hx e => by have := hge4 x e; omega))
  have hs7 := b7.size
  have x7' := x7 G7 hog7
  have hby : ∀ {wq : World}, Below w7.heap.size w7 wq → ∀ i, i < 4 → wq.cell? ⟨G7, i, none⟩ = some (.int .u8 0) := fun hq i hi => by
    obtain ⟨a, ea, _, hc⟩ := (h7.below hq).rd i (by rw [frE_len]; omega)
    cases ea
    have e2 : (frE c)[i]'(by rw [frE_len]; omega) = 0 := by
      have := frE_four c i hi
      rw [List.getElem?_eq_getElem (by rw [frE_len]; omega)] at this
      exact Option.some.inj this
    rw [e2, add_at G7 i] at hc
    exact hc
  have H7 := Lib.hid (And.intro hi7 (And.intro h7 (And.intro hO37 (And.intro (And.intro hs7 (And.intro hs6 (And.intro hs5 hs4))) x7'))))
  clear hS hi6 hi7 h6 x6 hO6 x7 b7 hO37 hs7 hs6 hs5 hs4 hog6 hgl6 x7' hB hB5 hob5 b5 H4 h7 hge4 hlt3
  go_upto_region 14 with (fail)
  refine wp_region_tail (S := fun wx => Below w7.heap.size w7 wx) (n := 26) (by kernel_rfl) (by decide) ?_
  try simp only [List.drop_succ_cons, List.drop_zero]
  obtain ⟨u0, hu0⟩ : ∃ u, u = w7.drew := ⟨_, rfl⟩
  have hS : Below w7.heap.size w7 u0 := by rw [hu0]; exact (Below.refl _ _).drew
  rw [← hu0]
  clear hu0
  try simp only [Act.put]
  refine wpAnyT_take (i := 0) (oi := _) (v := (rp h)) rfl (by kernel_rfl) (fun _ _ _ h => h) (by kernel_rfl) (fun wq hq => rfl) hS ?_
  try simp only [List.getElem_toArray, List.getElem_cons_succ, List.getElem_cons_zero, Act.put, List.setIfInBounds_toArray, List.set_cons_zero, List.set_cons_succ]
  refine wpAnyT_take (i := 1) (oi := _) (v := (rp h)) rfl (by kernel_rfl) (fun _ _ _ h => h) (by kernel_rfl) (fun wq hq => rfl) hS ?_
  try simp only [List.getElem_toArray, List.getElem_cons_succ, List.getElem_cons_zero, Act.put, List.setIfInBounds_toArray, List.set_cons_zero, List.set_cons_succ]
  refine wpAnyT_take (i := 2) (oi := _) (v := (rp h)) rfl (by kernel_rfl) (fun _ _ _ h => h) (by kernel_rfl) (fun wq hq => rfl) hS ?_
  try simp only [List.getElem_toArray, List.getElem_cons_succ, List.getElem_cons_zero, Act.put, List.setIfInBounds_toArray, List.set_cons_zero, List.set_cons_succ]
  refine wpAnyT_take (i := 3) (oi := _) (v := (.pointer (some ⟨h, 72, none⟩))) rfl (by kernel_rfl) (fun _ _ _ h => h) (by kernel_rfl) (fun wq hq => by go_simp) hS ?_
  try simp only [List.getElem_toArray, List.getElem_cons_succ, List.getElem_cons_zero, Act.put, List.setIfInBounds_toArray, List.set_cons_zero, List.set_cons_succ]
  refine wpAnyT_take (i := 4) (oi := _) (v := (.slice none 0 0)) rfl (by kernel_rfl) (fun _ _ _ h => h) (by kernel_rfl) (fun wq hq => by have h := (H7.out.1.below hq).g.2.2.2.2.2.1; go_simp) hS ?_
  try simp only [List.getElem_toArray, List.getElem_cons_succ, List.getElem_cons_zero, Act.put, List.setIfInBounds_toArray, List.set_cons_zero, List.set_cons_succ]
  refine wpAnyT_take (i := 5) (oi := _) (v := (rp h)) rfl (by kernel_rfl) (fun _ _ _ h => h) (by kernel_rfl) (fun wq hq => rfl) hS ?_
  try simp only [List.getElem_toArray, List.getElem_cons_succ, List.getElem_cons_zero, Act.put, List.setIfInBounds_toArray, List.set_cons_zero, List.set_cons_succ]
  refine wpAnyT_take (i := 6) (oi := _) (v := (rp h)) rfl (by kernel_rfl) (fun _ _ _ h => h) (by kernel_rfl) (fun wq hq => rfl) hS ?_
  try simp only [List.getElem_toArray, List.getElem_cons_succ, List.getElem_cons_zero, Act.put, List.setIfInBounds_toArray, List.set_cons_zero, List.set_cons_succ]
  refine wpAnyT_take (i := 7) (oi := _) (v := (.pointer (some ⟨h, 1, none⟩))) rfl (by kernel_rfl) (fun _ _ _ h => h) (by kernel_rfl) (fun wq hq => by go_simp) hS ?_
  try simp only [List.getElem_toArray, List.getElem_cons_succ, List.getElem_cons_zero, Act.put, List.setIfInBounds_toArray, List.set_cons_zero, List.set_cons_succ]
  refine wpAnyT_take (i := 8) (oi := _) (v := (.agg (k7.map B8).toArray)) rfl (by kernel_rfl) (fun _ _ _ h => h) (by kernel_rfl) (fun wq hq => ex_load_mid 29 (.tmp 75) rfl h 1 rfl (k7.map B8).toArray _ (H7.out.1.below hq).key Tryz.underlying29 rfl Tryz.infoB32) hS ?_
  try simp only [List.getElem_toArray, List.getElem_cons_succ, List.getElem_cons_zero, Act.put, List.setIfInBounds_toArray, List.set_cons_zero, List.set_cons_succ]
  refine wpAnyT_take (i := 10) (oi := _) (v := (.slice (some ⟨G7, 0, none⟩) 268 c7)) rfl (by kernel_rfl) (fun _ _ _ h => h) (by kernel_rfl) (fun wq hq => rfl) hS ?_
  try simp only [List.getElem_toArray, List.getElem_cons_succ, List.getElem_cons_zero, Act.put, List.setIfInBounds_toArray, List.set_cons_zero, List.set_cons_succ]
  refine wpAnyT_take (i := 11) (oi := _) (v := (.pointer (some ⟨G7, 0, none⟩))) rfl (by kernel_rfl) (fun _ _ _ h => h) (by kernel_rfl) (fun wq hq => by go_simp) hS ?_
  try simp only [List.getElem_toArray, List.getElem_cons_succ, List.getElem_cons_zero, Act.put, List.setIfInBounds_toArray, List.set_cons_zero, List.set_cons_succ]
  refine wpAnyT_take (i := 12) (oi := _) (v := (.int .u8 0)) rfl (by kernel_rfl) (fun _ _ _ h => h) (by kernel_rfl) (fun wq hq => by have h := hby hq 0 (by omega); go_simp) hS ?_
  try simp only [List.getElem_toArray, List.getElem_cons_succ, List.getElem_cons_zero, Act.put, List.setIfInBounds_toArray, List.set_cons_zero, List.set_cons_succ]
  refine wpAnyT_take (i := 13) (oi := _) (v := (.slice (some ⟨G7, 0, none⟩) 268 c7)) rfl (by kernel_rfl) (fun _ _ _ h => h) (by kernel_rfl) (fun wq hq => rfl) hS ?_
  try simp only [List.getElem_toArray, List.getElem_cons_succ, List.getElem_cons_zero, Act.put, List.setIfInBounds_toArray, List.set_cons_zero, List.set_cons_succ]
  refine wpAnyT_take (i := 14) (oi := _) (v := (.pointer (some ⟨G7, 1, none⟩))) rfl (by kernel_rfl) (fun _ _ _ h => h) (by kernel_rfl) (fun wq hq => by go_simp) hS ?_
  try simp only [List.getElem_toArray, List.getElem_cons_succ, List.getElem_cons_zero, Act.put, List.setIfInBounds_toArray, List.set_cons_zero, List.set_cons_succ]
  refine wpAnyT_take (i := 15) (oi := _) (v := (.int .u8 0)) rfl (by kernel_rfl) (fun _ _ _ h => h) (by kernel_rfl) (fun wq hq => by have h := hby hq 1 (by omega); go_simp) hS ?_
  try simp only [List.getElem_toArray, List.getElem_cons_succ, List.getElem_cons_zero, Act.put, List.setIfInBounds_toArray, List.set_cons_zero, List.set_cons_succ]
  refine wpAnyT_take (i := 16) (oi := _) (v := (.slice (some ⟨G7, 0, none⟩) 268 c7)) rfl (by kernel_rfl) (fun _ _ _ h => h) (by kernel_rfl) (fun wq hq => rfl) hS ?_
  try simp only [List.getElem_toArray, List.getElem_cons_succ, List.getElem_cons_zero, Act.put, List.setIfInBounds_toArray, List.set_cons_zero, List.set_cons_succ]
  refine wpAnyT_take (i := 17) (oi := _) (v := (.pointer (some ⟨G7, 2, none⟩))) rfl (by kernel_rfl) (fun _ _ _ h => h) (by kernel_rfl) (fun wq hq => by go_simp) hS ?_
  try simp only [List.getElem_toArray, List.getElem_cons_succ, List.getElem_cons_zero, Act.put, List.setIfInBounds_toArray, List.set_cons_zero, List.set_cons_succ]
  refine wpAnyT_take (i := 18) (oi := _) (v := (.int .u8 0)) rfl (by kernel_rfl) (fun _ _ _ h => h) (by kernel_rfl) (fun wq hq => by have h := hby hq 2 (by omega); go_simp) hS ?_
  try simp only [List.getElem_toArray, List.getElem_cons_succ, List.getElem_cons_zero, Act.put, List.setIfInBounds_toArray, List.set_cons_zero, List.set_cons_succ]
  refine wpAnyT_take (i := 19) (oi := _) (v := (.slice (some ⟨G7, 0, none⟩) 268 c7)) rfl (by kernel_rfl) (fun _ _ _ h => h) (by kernel_rfl) (fun wq hq => rfl) hS ?_
  try simp only [List.getElem_toArray, List.getElem_cons_succ, List.getElem_cons_zero, Act.put, List.setIfInBounds_toArray, List.set_cons_zero, List.set_cons_succ]
  refine wpAnyT_take (i := 20) (oi := _) (v := (.pointer (some ⟨G7, 3, none⟩))) rfl (by kernel_rfl) (fun _ _ _ h => h) (by kernel_rfl) (fun wq hq => by go_simp) hS ?_
  try simp only [List.getElem_toArray, List.getElem_cons_succ, List.getElem_cons_zero, Act.put, List.setIfInBounds_toArray, List.set_cons_zero, List.set_cons_succ]
  refine wpAnyT_take (i := 21) (oi := _) (v := (.int .u8 0)) rfl (by kernel_rfl) (fun _ _ _ h => h) (by kernel_rfl) (fun wq hq => by have h := hby hq 3 (by omega); go_simp) hS ?_
  try simp only [List.getElem_toArray, List.getElem_cons_succ, List.getElem_cons_zero, Act.put, List.setIfInBounds_toArray, List.set_cons_zero, List.set_cons_succ]
  refine wpAnyT_take (i := 22) (oi := _) (v := (.agg (List.replicate 12 (Value.int .u8 0)).toArray)) rfl (by kernel_rfl) (fun _ _ _ h => h) (by kernel_rfl) (fun wq hq => bld_12 rfl rfl rfl rfl) hS ?_
  try simp only [List.getElem_toArray, List.getElem_cons_succ, List.getElem_cons_zero, Act.put, List.setIfInBounds_toArray, List.set_cons_zero, List.set_cons_succ]
  clear hby
  refine wpAnyT_ready (rs := [9]) (by kernel_rfl) (by simp) ?_
  refine AllReadyT.cons rfl (by decide) (fun K hC => ?_) AllReadyT.nil
  go_simp
  go_wp2_with (go_at_call 32; apply Calls.mono; (· (with_reducible exact kf_v _)); rintro e w8 ⟨rfl, b8⟩)
  have hS8 := hS.trans (b8.mono hS.size)
  refine hC.out _ _ hS8 ?_
  clear hC K b8
  try simp only [List.getElem_toArray, List.getElem_cons_succ, List.getElem_cons_zero, Act.put, List.setIfInBounds_toArray, List.set_cons_zero, List.set_cons_succ]
  refine wpAnyT_take (i := 23) (oi := _) (v := (.agg slC)) rfl (by kernel_rfl) (fun _ _ _ h => h) (by kernel_rfl) (fun wq hq => bld_sl rfl rfl) hS8 ?_
  try simp only [List.getElem_toArray, List.getElem_cons_succ, List.getElem_cons_zero, Act.put, List.setIfInBounds_toArray, List.set_cons_zero, List.set_cons_succ]
  have hslz := slC_size
  refine wpAnyT_ready (rs := [24]) (by kernel_rfl) (by simp) ?_
  refine AllReadyT.cons rfl (by decide) (fun K hC => ?_) AllReadyT.nil
  go_simp
  go_wp2
  clear hslz
  have hb9 := Blk.new w8 97 slC
  have hS9 := hS8.alloc hS8.size (.cells slC 97)
  refine hC.out _ _ hS9 ?_
  clear hC K
  try simp only [List.getElem_toArray, List.getElem_cons_succ, List.getElem_cons_zero, Act.put, List.setIfInBounds_toArray, List.set_cons_zero, List.set_cons_succ]
  obtain ⟨G9, hG9⟩ : ∃ b, b = w8.heap.size := ⟨_, rfl⟩
  rw [← hG9] at hb9 ⊢
  clear hG9
  change wpAnyT _ _ _ _ _ _ _ _ _ _ (w8.alloc (.cells slC 97))
  generalize w8.alloc (.cells slC 97) = w9 at *
  refine wpAnyT_ready (rs := [25]) (by kernel_rfl) (by simp) ?_
  refine AllReadyT.cons rfl (by decide) (fun K hC => ?_) AllReadyT.nil
  obtain ⟨pS, cS, w10, hr10, b10⟩ := app_sl w9 62 G9 hb9
  refine step_builtin rfl (.tmp 72) (.tmp 92) 62 62 rfl _ _ rfl rfl hr10 ?_
  have hS10 := hS9.trans (b10.mono hS9.size)
  refine hC.out _ _ hS10 ?_
  clear hC K hr10 b10 hb9 hS hS8 hS9
  try simp only [List.getElem_toArray, List.getElem_cons_succ, List.getElem_cons_zero, Act.put, List.setIfInBounds_toArray, List.set_cons_zero, List.set_cons_succ]
  refine wpAnyT_tail (by kernel_rfl) ?_
  have f72 := (H7.out.1.below hS10).fr 72
  have g72 := (H7.out.1.below hS10).g.2.2.2.2.2.1
  go_upto_region 15 with (fail)
  refine wp_world (fun W => HI W P3 h mc mh j r g n (k + 1) (splice L ((2 + used) * 64) (secsF 1 E.length (2 :: be 8 4))) (E ++ [2 :: be 8 4]) (used + 1) f nc had 1 8 (.slice pS 1 cS) ∧ Only (fun x => x = h) w10 W) ?_ ?_
  · exact (H7.out.1.below hS10).set72 (.slice pS 1 cS)
  intro V hV
  have hw710 := hS10.size
  have hG7h : G7 ≠ h := by have := H7.out.2.2.2.2; have := H7.out.2.2.2.1; have := hi3l.1; omega
  have h7V := (H7.out.2.1.below hS10).only hV.2 (fun x hx e => by have h1 := H7.out.2.1.form.2.2 _ rfl; have h2 := OB.lt H7.out.2.1 x hx; unfold owB Value.ownBlock at hx; simp at hx; omega)
  have hOV : Only (fun x => x = h) w3 V := ((H7.out.2.2.1.mono (fun _ _ e => e.elim)).then (Only.of_below hS10)).then hV.2
  have HV := Lib.hid (And.intro hV.1 (And.intro h7V (And.intro hOV (And.intro (Nat.le_trans hw710 hV.2.size) hw710))))
  clear hV h7V hOV hw710 f72 g72 hS10
  have hbl : (3 :: be c 2 ++ frE c).length = 271 := by rw [List.length_append, List.length_cons, be_length, frE_len]
  have hEl : (E ++ [2 :: be 8 4]).length = E.length + 1 := by rw [List.length_append]; rfl
  have HB := Lib.hid (And.intro hbl hEl)
  clear hbl hEl
  go_upto_region 16 with (first
    | (go_at_call 19; apply Calls.mono; (· (with_reducible refine entry_32 c _ ?_); (· omega)); rintro e v1 ⟨p8, n8, c8, rfl, h8, x8, b8⟩)
    | (refine wpList_app8 rfl _ _ rfl h8 rfl (fun k => owB (some ⟨G7, 0, none⟩) 268 c7 k) (some ⟨G7, 0, none⟩) 268 c7 (frE c) rfl (frE_len c) (HV.out.2.1.below b8).rd (by intro h; cases h) (by rw [frE_len, List.length_cons, be_length]; omega) ?_; intro p9 n9 c9 v2 h9 x9 hO9; have hn9 := h9.len; rw [HB.out.1] at hn9; subst hn9; obtain ⟨G9, rfl, hog9, hgl9⟩ := h9.pos (by decide); have hx9 := x9 G9 hog9)
    | (go_at_call 18; apply Calls.mono; (· (with_reducible refine write_c P3 h mc mh j r g n (k + 1) (used + 1) nc 1 8 271 c9 (splice L ((2 + used) * 64) (secsF 1 E.length (2 :: be 8 4))) (E ++ [2 :: be 8 4]) f had (.slice pS 1 cS) (fun x => owB (some ⟨G9, 0, none⟩) 271 c9 x) ⟨G9, 0, none⟩ (3 :: be c 2 ++ frE c) _ ?_ ?_ ?_ ?_ ?_ ?_ ?_ ?_ ?_ ?_ ?_ ?_); (· exact (HV.out.1.below b8).keep hO9 (fun x hx e => by have h1 := x8 x e; have h2 := HV.out.2.2.2.1; have h3 := H7.out.2.2.1.size; rcases hx with hx | hx; (· have := (H3.out.2.2.2.2.1 x hx).2; omega); (· omega)) (fun x y hx e => by have h1 := x8 y e; have := (HV.out.1.co x y hx).1.lt; omega)); (· exact h4); (· exact h9.rd); (· intro x hx; have hx1 : V.heap.size ≤ x := (by have h0 := b8.size; rcases x9 x hx with e | e; (· exact x8 x e); (· omega)); have h2 := HV.out.2.2.2.1; have h3 := H7.out.2.2.1.size; omega); (· exact h9.form.1); (· exact HB.out.1); (· decide); (· decide); (· decide); (· have := H.out.2.2.2.2; have h5 : needF 271 = 5 := (by decide); omega); (· have := H.out.2.2.1; have := HB.out.2; omega); (· have := H.out.2.2.2.1; omega)); rintro e v3 ⟨rfl, hi3v, hO3v⟩))
  rw [HB.out.1, HB.out.2] at hi3v
  have hn5 : needF 271 = 5 := by decide
  rw [hn5] at hi3v
  have g73 := hi3v.g.2.2.2.2.2.2
  have hbk := hi3v.co (c : Int) b H.out.2.1
  have e235 : v3.cell? ⟨b, 235, none⟩ = some (.int .i64 0) := (hbk.1.c 235).trans coV_234.2
  have e236 : v3.cell? ⟨b, 236, none⟩ = coV[236]? := hbk.1.c 236
  have f235 := hbk.1.fr 235
  have f236 := hbk.1.fr 236
  have c236 : coV[236]? = some (.slice none 0 0) := by kernel_rfl
  rw [c236] at e236
  have hOw : Only (fun x => (P x ∧ x < w.heap.size) ∨ x = h ∨ x = j ∨ x = r ∨ x = g) w v3 := by
    have h1 := (H3.out.2.1.then (HV.out.2.2.1.mono (fun x _ e => .inr (.inl e)))).then (Only.of_below b8)
    have h2 := h1.trans hO9 (fun _ h => h) (t := fun x => (P x ∧ x < w.heap.size) ∨ x = h ∨ x = j ∨ x = r ∨ x = g) (fun x hx e => by have := x8 x e; have := HV.out.2.2.2.1; have := H7.out.2.2.1.size; have := H3.out.2.1.size; omega)
    exact h2.trans hO3v (fun _ h => h) (fun x hx e => by
      rcases e with e | e
      · have h5 := H3.out.2.2.2.2.1 x e
        rcases h5.1 with h6 | h6
        · exact .inl h6
        · have := HT.out.2.2.2.2.2.size; omega
      · exact .inr (.inr e))
  have HE := Lib.hid (And.intro hi3v (And.intro g73 (And.intro hbk.2 hOw)))
  clear hi3v g73 hbk hOw hO3v hO9 h9 h8 x8 x9 hx9 b8
  go_wp2
  go_ret
  have ho : Only (fun x => x = b) v3 ((v3.setCell ⟨b, 235, none⟩ (.int .i64 1)).setCell ⟨b, 236, none⟩ (.slice none 0 0)) := ((Only.refl (fun x => x = b) v3).setCell ⟨b, 235, none⟩ (.int .i64 1) (.inl rfl)).setCell ⟨b, 236, none⟩ (.slice none 0 0) (.inl rfl)
  have hb := HE.out.2.2.1
  obtain ⟨ch, hbh⟩ := HE.out.1.b
  have c73 := ((hbh.only ho (fun e => hb.2.1 e.symm)).c 73).trans (hoV_get j ch tkF tkF_len mc mh 1 8 (.slice pS 1 cS) false).2.2.2.2.2.2.2
  refine ⟨rfl, _, HE.out.1.J.keep ho (fun x hx e => ?_), c73, (HE.out.2.2.2.mono (fun x _ e => ?_)).then (ho.mono (fun x _ e => .inr (.inr (.inl e))))⟩
  · subst e
    rcases hx with e | e
    · exact hb.1 e
    · omega
  · rcases e with e | e
    · exact .inl e.1
    · rcases e with e | e
      · exact .inr (.inl e)
      · exact .inr (.inr (.inr e))
end Go.Proofs.YtolgaapiedbkfaaGreat
