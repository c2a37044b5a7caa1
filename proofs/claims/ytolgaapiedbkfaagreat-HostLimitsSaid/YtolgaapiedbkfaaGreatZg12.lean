/-
  finder.entry of a count. Conditions: those of each theorem.
-/
import Derived.Test.YtolgaapiedbkfaaGreatZHstO
import Derived.Test.YtolgaapiedbkfaaGreatZHstR
import Derived.Test.YtolgaapiedbkfaaGreatProg
import Derived.Ground.NamesProg
import Derived.Shelf.Sort.Plain
import Derived.Test.YtolgaapiedbkfaaGreatZg10
import Derived.Sort.OwnSortedInts
import Derived.Sort.KeysCollected
import Derived.Maps.RangeWalk
import Derived.Test.YtolgaapiedbkfaaGreatZg8
import Derived.Test.YtolgaapiedbkfaaGreatZg7
namespace Go.Proofs.YtolgaapiedbkfaaGreat
open Go.RowKit Go.Kx Go.Maps
set_option linter.unusedVariables false
set_option linter.unusedSimpArgs false
set_option maxRecDepth 100000
theorem FI.set70 {w : World} {F h mc mh ml md j cnt cnts nc nh nl nd : Nat} {f : Int → Option Nat} {gh gl gd : Int → Bool} (hi : FI w F h mc mh ml md j cnt cnts f nc nh nl nd gh gl gd) (m : Nat) :
    FI (w.setCell ⟨h, 70, none⟩ (.int .i64 (m : Int))) F h mc mh ml md j m cnts f nc nh nl nd gh gl gd ∧ Only (fun x => x = h) w (w.setCell ⟨h, 70, none⟩ (.int .i64 (m : Int))) := by
  have ho : Only (fun x => x = h) w (w.setCell ⟨h, 70, none⟩ (.int .i64 (m : Int))) := (Only.refl _ w).setCell _ _ (.inl rfl)
  obtain ⟨h1, ⟨ch, h2⟩, h3, h4, h5, h6, h7⟩ := hi
  have h9 := h2.set 70 (.int .i64 (m : Int))
  rw [(hoV_set j ch tkF tkF_len mc mh cnt cnts (.slice none 0 0) false).2.1 m] at h9
  exact ⟨⟨h1.only ho (by omega), ⟨ch, h9⟩, h3.only ho (by omega), h4.only ho (by omega), h5.only ho (by omega), h6.only ho (by omega), h7⟩, ho⟩
theorem FI.set71 {w : World} {F h mc mh ml md j cnt cnts nc nh nl nd : Nat} {f : Int → Option Nat} {gh gl gd : Int → Bool} (hi : FI w F h mc mh ml md j cnt cnts f nc nh nl nd gh gl gd) (m : Nat) :
    FI (w.setCell ⟨h, 71, none⟩ (.int .i64 (m : Int))) F h mc mh ml md j cnt m f nc nh nl nd gh gl gd ∧ Only (fun x => x = h) w (w.setCell ⟨h, 71, none⟩ (.int .i64 (m : Int))) := by
  have ho : Only (fun x => x = h) w (w.setCell ⟨h, 71, none⟩ (.int .i64 (m : Int))) := (Only.refl _ w).setCell _ _ (.inl rfl)
  obtain ⟨h1, ⟨ch, h2⟩, h3, h4, h5, h6, h7⟩ := hi
  have h9 := h2.set 71 (.int .i64 (m : Int))
  rw [(hoV_set j ch tkF tkF_len mc mh cnt cnts (.slice none 0 0) false).2.2.1 m] at h9
  exact ⟨⟨h1.only ho (by omega), ⟨ch, h9⟩, h3.only ho (by omega), h4.only ho (by omega), h5.only ho (by omega), h6.only ho (by omega), h7⟩, ho⟩
theorem FI.fr {w : World} {F h mc mh ml md j cnt cnts nc nh nl nd : Nat} {f : Int → Option Nat} {gh gl gd : Int → Bool} (hi : FI w F h mc mh ml md j cnt cnts f nc nh nl nd gh gl gd) (o : Nat) : w.frozen? ⟨h, o, none⟩ = false := by
  obtain ⟨ch, hb⟩ := hi.hb
  exact hb.fr o
theorem uint_84 (r g : Nat) (w : World) (h : Cur w r g (be 8 4) 0) : Calls Tryz.prog 75 #[rp r, .int .i64 4] w fun e w' => e = .returned (.int .i64 8) ∧ Cur w' r g [] 0 ∧ Only (· = r) w w' := uint_be r g 8 4 [] w (by decide) (by decide) (by rw [List.append_nil]; exact h)
/-- What entry tells of a count. -/
def EcR (F h mc mh ml md j nc nh nl nd : Nat) (f : Int → Option Nat) (gh gl gd : Int → Bool) (w : World) (e : Ending) (w' : World) : Prop :=
  e = .returned (.bool true) ∧ FI w' F h mc mh ml md j 8 8 f nc nh nl nd gh gl gd ∧ Only (fun x => x = h) w w'
set_option maxHeartbeats 8000000 in
theorem entry_count (F h mc mh ml md j cnt cnts nc nh nl nd : Nat) (f : Int → Option Nat) (gh gl gd : Int → Bool) (cp : Nat) (T : Nat → Prop) (q : Addr) (w : World) (hi : FI w F h mc mh ml md j cnt cnts f nc nh nl nd gh gl gd) (hR : Rd w T (some q) (2 :: be 8 4)) :
    Calls Tryz.prog 41 #[rp F, .slice (some q) 5 cp] w (EcR F h mc mh ml md j nc nh nl nd f gh gl gd w) := by
  have hbl : (2 :: be 8 4).length = 5 := by rw [List.length_cons, be_length]
  have hlw := hi.lt
  have H := Lib.hid (And.intro hi (And.intro hR (And.intro hbl hlw)))
  obtain ⟨f0, _⟩ := hi.g
  clear hi hR hbl hlw
  go_enter Tryz.func41, Tryz.ntmps41
  go_upto_region 3 with (go_at_call 74; refine (new_c T (some q) 5 cp (2 :: be 8 4) _ H.out.2.1 (by intro h; cases h) (by rw [H.out.2.2.1]; decide) H.out.2.2.1).mono ?_; rintro e w1 ⟨r, g, rfl, hr, hrl, hg, hcu, b1⟩)
  go_upto_region 11 with (go_at_call 75; apply Calls.mono; (· (with_reducible refine uint_12 r g (be 8 4) _ ?_); (· exact hcu)); rintro e w2 ⟨rfl, hc2, o2⟩)
  have b2 : Below w.heap.size w w2 := below_only b1 b1.size o2 (fun k hk e => by omega)
  have hi2 := H.out.1.below b2
  have H2 := Lib.hid (And.intro hi2 (And.intro b2 (And.intro hr hg)))
  clear b1 o2 hcu b2 hr hg f0 hi2
  go_upto_region 12 with (go_at_call 75; apply Calls.mono; (· (with_reducible refine uint_84 r g _ ?_); (· exact hc2)); rintro e w3 ⟨rfl, hc3, o3⟩; have hi3 := H2.out.1.only o3 (by have := H.out.2.2.2; have := H2.out.2.2; omega); have e71 := hi3.g.2.2.2.2.2.2.1; have g71 := hi3.fr 71; have b3 := below_only H2.out.2.1 H2.out.2.1.size o3 (fun k hk e => by have := H2.out.2.2; omega); have H3 := Lib.hid (And.intro hi3 (And.intro b3 hc3)); clear hi3 b3 hc3 o3 hc2)
  refine wp_world (fun W => FI W F h mc mh ml md j cnt 8 f nc nh nl nd gh gl gd ∧ Only (fun x => x = h) w3 W) ?_ ?_
  · exact H3.out.1.set71 8
  intro V hV
  have e71 := hV.1.g.2.2.2.2.2.2.1
  have e70 := hV.1.g.2.2.2.2.2.1
  have g70 := hV.1.fr 70
  have HV := Lib.hid hV
  clear hV g71
  have hS8 := HV.out.1.set70 8
  have hcv : Cur (V.setCell ⟨h, 70, none⟩ (.int .i64 8)) r g [] 0 := (H3.out.2.2.only HV.out.2 (by have := H.out.2.2.2; have := H2.out.2.2; omega) (by have := H.out.2.2.2; have := H2.out.2.2; omega)).only hS8.2 (by have := H.out.2.2.2; have := H2.out.2.2; omega) (by have := H.out.2.2.2; have := H2.out.2.2; omega)
  have HS := Lib.hid hS8
  clear hS8
  go_wp2_with (go_at_call 82; apply Calls.mono; (· (with_reducible exact done_0 r g _ hcv)); rintro e wd ⟨rfl, rfl⟩)
  go_ret
  exact ⟨rfl, HS.out.1, ((Only.of_below H3.out.2.1).then HV.out.2).then HS.out.2⟩
end Go.Proofs.YtolgaapiedbkfaaGreat
/-
  finder.entry of a snapshot. Conditions: those of each theorem.
-/
namespace Go.Proofs.YtolgaapiedbkfaaGreat
open Go.RowKit Go.Kx Go.Maps
set_option linter.unusedVariables false
set_option linter.unusedSimpArgs false
set_option maxRecDepth 100000
/-- What entry tells of a snapshot. -/
def EsR (F h mc mh ml md j cnt cnts nc nh nl nd b : Nat) (f : Int → Option Nat) (gh gl gd : Int → Bool) (c : Nat) (w : World) (e : Ending) (w' : World) : Prop := SnR F h mc mh ml md j cnt cnts nc nh nl nd b f gh gl gd c w e w'
set_option maxHeartbeats 8000000 in
theorem entry_snap (F h mc mh ml md j cnt cnts nc nh nl nd b : Nat) (f : Int → Option Nat) (gh gl gd : Int → Bool) (c cp : Nat) (T : Nat → Prop) (q : Addr) (w : World) (hi : FI w F h mc mh ml md j cnt cnts f nc nh nl nd gh gl gd) (hb : Blk w b 74 coV) (hbn : b ≠ F ∧ b ≠ h ∧ b ≠ mc ∧ b ≠ mh ∧ b ≠ ml ∧ b ≠ md)
    (hR : Rd w T (some q) (3 :: be c 2 ++ frE c)) (hc : c ≤ 65535) (hf : f (c : Int) = some b) (hn : nl ≤ 1000 ∧ nd ≤ 1000) :
    Calls Tryz.prog 41 #[rp F, .slice (some q) 271 cp] w (EsR F h mc mh ml md j cnt cnts nc nh nl nd b f gh gl gd c w) := by
  have hbl : (3 :: be c 2 ++ frE c).length = 271 := by rw [List.length_append, List.length_cons, be_length, frE_len]
  have hlw := hi.lt
  have hlb := hb.lt
  have H := Lib.hid (And.intro hi (And.intro hb (And.intro hbn (And.intro hR (And.intro hf (And.intro hn (And.intro hbl (And.intro hlw hlb))))))))
  obtain ⟨f0, _⟩ := hi.g
  clear hi hb hbn hR hf hn hbl hlw hlb
  go_enter Tryz.func41, Tryz.ntmps41
  go_upto_region 3 with (go_at_call 74; refine (new_c T (some q) 271 cp (3 :: be c 2 ++ frE c) _ H.out.2.2.2.1 (by intro h; cases h) (by rw [H.out.2.2.2.2.2.2.1]; decide) H.out.2.2.2.2.2.2.1).mono ?_; rintro e w1 ⟨r, g, rfl, hr, hrl, hg, hcu, b1⟩)
  go_upto_region 15 with (first
    | (go_at_call 75; apply Calls.mono; (· (with_reducible refine uint_2 r g c (frE c) _ ?_ ?_); (· exact hc); (· exact hc2)); rintro e w3 ⟨rfl, hc3, o3⟩)
    | (go_at_call 75; apply Calls.mono; (· (with_reducible refine uint_13 r g (be c 2 ++ frE c) _ ?_); (· exact hcu)); rintro e w2 ⟨rfl, hc2, o2⟩))
  have b2 : Below w.heap.size w w2 := below_only b1 b1.size o2 (fun k hk e => by omega)
  have b3 : Below w.heap.size w w3 := below_only b2 b2.size o3 (fun k hk e => by omega)
  have H3 := Lib.hid (And.intro b3 (And.intro hr hg))
  clear b1 b2 b3 o2 o3 hcu hc2 hr hg f0
  go_upto_region 17 with (first
    | (go_at_call 78; apply Calls.mono; (· (with_reducible refine snapshot_c F h mc mh ml md j cnt cnts nc nh nl nd b f gh gl gd c c7 G7 0 (fun k => k = g7) _ ?_ ?_ ?_ ?_ ?_ ?_ ?_ ?_); (· exact (H.out.1.below H3.out.1).only o7 (by have := H.out.2.2.2.2.2.2.2.1; have := H3.out.2; omega)); (· exact (H.out.2.1.below H3.out.1).only o7 (by have := H.out.2.2.2.2.2.2.2.2; have := H3.out.2; omega)); (· exact H.out.2.2.1); (· exact ho7.rd); (· exact hf7); (· exact hc); (· exact H.out.2.2.2.2.1); (· exact H.out.2.2.2.2.2.1)); rintro e w8 ⟨rfl, hi8, o8⟩)
    | (go_at_call 76; apply Calls.mono; (· (with_reducible exact bytes_268 r g c _ hc3)); rintro e w7 ⟨g7, p7, c7, rfl, hg7, ho7, hc7, o7⟩; obtain ⟨G7, rfl, hog7, hgl7⟩ := (OB.of_own ho7).1.pos (by decide); have hf7 := (OB.of_own ho7).1.form.1)
    | (go_at_call 77; apply Calls.mono; (· (with_reducible exact left_268 r g c _ hc3)); rintro e w6 ⟨rfl, hw6⟩; rw [hw6]; clear hw6 w6))
  have hc8 := hc7.only o8 (by have := H.out.2.2.2.2.2.2.2; have := H3.out.2; omega) (by have := H.out.2.2.2.2.2.2.2; have := H3.out.2; omega)
  go_wp2_with (go_at_call 82; apply Calls.mono; (· (with_reducible exact done_0 r g _ hc8)); rintro e wd ⟨rfl, rfl⟩)
  go_ret
  refine ⟨rfl, hi8, ((Only.of_below H3.out.1).trans o7 (fun _ h => h) (t := fun x => x = b ∨ x = ml ∨ x = md) (fun x hx e => by have := H3.out.2; omega)).then o8⟩
end Go.Proofs.YtolgaapiedbkfaaGreat
/-
  The library's sort of whole numbers at this program: the shelf's laying, in plain words (written by the kit's lay-plain tool). No condition.
-/
namespace Go.Proofs
open Go.Shelf
def Tryz.lays189_ren : Go.Shelf.Ren := ⟨fun | 189 => 21 | 125 => 48 | 257 => 47 | 128 => 98 | 129 => 99 | 294 => 89 | 295 => 90 | 296 => 91 | 297 => 92 | 298 => 93 | 299 => 94 | 216 => 95 | 300 => 96 | 301 => 97 | 328 => 130 | 329 => 131 | 330 => 132 | 331 => 133 | 332 => 134 | 215 => 135 | 343 => 156 | n => n, fun | 28 => 36 | 3 => 3 | 46 => 116 | 0 => 0 | 51 => 173 | 53 => 35 | 4 => 4 | 183 => 167 | 182 => 166 | 131 => 162 | 5 => 5 | 9 => 9 | 218 => 215 | 222 => 219 | 228 => 246 | 229 => 247 | n => n, fun | n => n⟩
theorem Tryz.lays189 : Go.Proofs.Lays.n189 Tryz.prog Tryz.lays189_ren := {
  mixed := by kernel_rfl
  f125 := Tryz.func48.trans (congrArg some (by kernel_rfl))
  f128 := Tryz.func98.trans (congrArg some (by kernel_rfl))
  f129 := Tryz.func99.trans (congrArg some (by kernel_rfl))
  f189 := Tryz.func21.trans (congrArg some (by kernel_rfl))
  f215 := Tryz.func135.trans (congrArg some (by kernel_rfl))
  f216 := Tryz.func95.trans (congrArg some (by kernel_rfl))
  f257 := Tryz.func47.trans (congrArg some (by kernel_rfl))
  f294 := Tryz.func89.trans (congrArg some (by kernel_rfl))
  f295 := Tryz.func90.trans (congrArg some (by kernel_rfl))
  f296 := Tryz.func91.trans (congrArg some (by kernel_rfl))
  f297 := Tryz.func92.trans (congrArg some (by kernel_rfl))
  f298 := Tryz.func93.trans (congrArg some (by kernel_rfl))
  f299 := Tryz.func94.trans (congrArg some (by kernel_rfl))
  f300 := Tryz.func96.trans (congrArg some (by kernel_rfl))
  f301 := Tryz.func97.trans (congrArg some (by kernel_rfl))
  f328 := Tryz.func130.trans (congrArg some (by kernel_rfl))
  f329 := Tryz.func131.trans (congrArg some (by kernel_rfl))
  f330 := Tryz.func132.trans (congrArg some (by kernel_rfl))
  f331 := Tryz.func133.trans (congrArg some (by kernel_rfl))
  f332 := Tryz.func134.trans (congrArg some (by kernel_rfl))
  f343 := Tryz.func156.trans (congrArg some (by kernel_rfl))
  t0 := Tryz.underlying0
  a0 := Tryz.isAgg0
  z0 := Tryz.sizeOf0
  v0 := Tryz.zeroValue0
  t3 := Tryz.underlying3
  a3 := Tryz.isAgg3
  z3 := Tryz.sizeOf3
  v3 := Tryz.zeroValue3
  t4 := Tryz.underlying4
  a4 := Tryz.isAgg4
  z4 := Tryz.sizeOf4
  v4 := Tryz.zeroValue4
  t5 := Tryz.underlying5
  a5 := Tryz.isAgg5
  z5 := Tryz.sizeOf5
  v5 := Tryz.zeroValue5
  t9 := Tryz.underlying9
  a9 := Tryz.isAgg9
  z9 := Tryz.sizeOf9
  v9 := Tryz.zeroValue9
  t28 := Tryz.underlying36
  a28 := Tryz.isAgg36
  z28 := Tryz.sizeOf36
  v28 := Tryz.zeroValue36
  t46 := Tryz.underlying116
  a46 := Tryz.isAgg116
  z46 := Tryz.sizeOf116
  v46 := Tryz.zeroValue116
  t51 := Tryz.underlying173
  a51 := Tryz.isAgg173
  z51 := Tryz.sizeOf173
  v51 := Tryz.zeroValue173
  t53 := Tryz.underlying35
  a53 := Tryz.isAgg35
  z53 := Tryz.sizeOf35
  v53 := Tryz.zeroValue35
  t131 := Tryz.underlying162
  a131 := Tryz.isAgg162
  z131 := Tryz.sizeOf162
  v131 := Tryz.zeroValue162
  t182 := Tryz.underlying166
  a182 := Tryz.isAgg166
  z182 := Tryz.sizeOf166
  v182 := Tryz.zeroValue166
  t183 := Tryz.underlying167
  a183 := Tryz.isAgg167
  z183 := Tryz.sizeOf167
  v183 := Tryz.zeroValue167
  t218 := Tryz.underlying215
  a218 := Tryz.isAgg215
  z218 := Tryz.sizeOf215
  v218 := Tryz.zeroValue215
  t222 := Tryz.underlying219
  a222 := Tryz.isAgg219
  z222 := Tryz.sizeOf219
  v222 := Tryz.zeroValue219
  t228 := Tryz.underlying246
  a228 := Tryz.isAgg246
  z228 := Tryz.sizeOf246
  v228 := Tryz.zeroValue246
  t229 := Tryz.underlying247
  a229 := Tryz.isAgg247
  z229 := Tryz.sizeOf247
  v229 := Tryz.zeroValue247 }
end Go.Proofs
/-
  The contract of host's Conns: as many as live, each one that does. Conditions: those of each theorem.
-/
namespace Go.Proofs.YtolgaapiedbkfaaGreat
open Go.RowKit Go.Kx Go.Maps
set_option linter.unusedVariables false
set_option linter.unusedSimpArgs false
set_option maxRecDepth 100000
def litInt : Lit → Int
  | .int _ x => x
  | _ => 0
/-- The numbers met so far: none twice; each just where the map has it and it is no longer to come. -/
def ColI (D0 : HD) (left : Lit → Bool) (ss : List Int) : Prop := ss.Nodup ∧ ∀ x, x ∈ ss ↔ (has D0 (.int .i64 x) = true ∧ left (.int .i64 x) = false)
theorem ColI.start (D0 : HD) : ColI D0 (has D0) [] := ⟨List.nodup_nil, fun x => by cases has D0 (.int .i64 x) <;> simp⟩
theorem ColI.step {D0 : HD} {left : Lit → Bool} {ss : List Int} (h : ColI D0 left ss) {x : Int} {y : HD} (hlk : left (.int .i64 x) = true) (hat : ∀ zd, D0.atKey (.int .i64 x) zd = y) : ColI D0 (fun z => left z && !z.sameKey (.int .i64 x)) (ss ++ [x]) := by
  have hhas : has D0 (.int .i64 x) = true := has_true_of_atKey hat
  have hnew : x ∉ ss := fun hx => by have := ((h.2 x).1 hx).2; rw [hlk] at this; cases this
  refine ⟨List.nodup_append.2 ⟨h.1, by simp, fun a ha b hb => by simp at hb; subst hb; exact fun e => hnew (e ▸ ha)⟩, fun y => ?_⟩
  by_cases hy : y = x
  · subst hy; simp [hhas, Lit.sameKey]
  · simp [h.2 y, hy, Lit.sameKey]
theorem ColI.len {D0 : HD} {left : Lit → Bool} {ss : List Int} {w : World} {b n : Nat} (h : ColI D0 left ss) (hown : w.ownsMap Tryz.prog 3 ptrElem b n D0) (hl : ∀ kl, left kl = false) : ss.length = size D0 ∧ ∀ x ∈ ss, has D0 (.int .i64 x) = true := by
  refine ⟨?_, fun x hx => ((h.2 x).1 hx).1⟩
  obtain ⟨es, hD, hpw, _⟩ := hown.entries (int_keyed Tryz.underlying3)
  obtain ⟨es', hD', hko⟩ := hown.keysOf
  obtain rfl : es = es' := by rw [hD] at hD'; simpa using hD'
  subst hD
  have hk : ∀ p ∈ es, ∃ x, p.1 = Lit.int .i64 x := fun p hp => by
    obtain ⟨v, hv⟩ := hko p hp
    obtain ⟨x, _, hx, _⟩ := Maps.keyOf_int_inv Tryz.underlying3 hv
    exact ⟨x, hx⟩
  have hperm : ss.Perm (es.map fun p => litInt p.1) := by
    refine (List.perm_ext_iff_of_nodup h.1 ?_).2 fun x => ?_
    · refine List.pairwise_map.2 (hpw.imp_of_mem fun {p q} hp' hq' hne e => hne ?_)
      obtain ⟨a, ha⟩ := hk p hp'
      obtain ⟨b, hb⟩ := hk q hq'
      rw [ha, hb] at e ⊢
      exact congrArg _ e
    · rw [h.2 x, hl, has_eq, List.any_eq_true, List.mem_map]
      constructor
      · rintro ⟨⟨p, hp', hs⟩, _⟩
        obtain ⟨a, ha⟩ := hk p hp'
        rw [ha] at hs
        exact ⟨p, hp', by rw [ha]; simpa [Lit.sameKey, litInt] using hs⟩
      · rintro ⟨p, hp', rfl⟩
        obtain ⟨a, ha⟩ := hk p hp'
        exact ⟨⟨p, hp', by rw [ha]; simp [Lit.sameKey, litInt]⟩, rfl⟩
  rw [hperm.length_eq, List.length_map]
  rfl
theorem sort_i (g cap : Nat) (zs : List Int) (w : World) (base : Nat) (hbase : base ≤ g) (hw : w.ownsRow base 3 1 (.slice (some ⟨g, 0, none⟩) zs.length cap) zs.length (zs.map (Value.int .i64))) (hl : zs.length ≤ 1000) :
    Calls Tryz.prog 21 #[.slice (some ⟨g, 0, none⟩) zs.length cap] w fun e w' => e = .returned (.tuple #[]) ∧ (∃ ts : List Int, ts.Perm zs ∧ w'.ownsRow base 3 1 (.slice (some ⟨g, 0, none⟩) zs.length cap) zs.length (ts.map (Value.int .i64))) ∧ Only (fun x => x = g) w w' := by
  rcases hw.2 with ⟨h0, _⟩ | ⟨g', cap', cur, hv, hg, hb, h1, h2, h3, h4⟩
  · cases h0
  cases hv
  have hH := holds_of_blockI (ss := zs) hb (by simpa using h4)
  refine (Any.slices_Sort_int Tryz.lays189 g 0 cap zs w hH (Array.getElem?_eq_some_iff.1 hb).1 (by omega)).mono ?_
  rintro e w' ⟨rfl, n, os, rfl⟩
  refine ⟨rfl, ⟨zs.mergeSort fun x y => decide (x ≤ y), List.mergeSort_perm _ _, ownsRow_sortedI (List.length_mergeSort _) hg hb h1 h2 h3⟩, ?_⟩
  exact (Only.of_grown (g := some g) (grownBy_sortedI _)).mono (fun k _ hk => by simpa using hk)
theorem infoIn : (Tryz.prog.info? 3).map (fun i => (i.zero, i.size, i.bytes)) = some (some (.int .i64 0), 1, 8) := by kernel_rfl
theorem wpList_appI {w : World} {ops : Array Oper} {rest : List Oper} {o : Oper} {a : Act} {Q : Exit → Act → World → Prop} (hgd : o.guard = none) (s x : Operand)
    (ho : o.op = .call { callee := .builtin .append, args := #[s, x], argTypes := #[36, 36] }) {p : Option Addr} {n c ad : Nat} {ss : List Int} {z : Int} (hs : a.eval s = .slice p n c) (hx : a.eval x = .slice (some ⟨ad, 0, none⟩) 1 1)
    (h : w.ownsRow 0 3 1 (.slice p n c) n (ss.map (Value.int .i64))) (hb : w.cell? ⟨ad, 0, none⟩ = some (.int .i64 z)) (hn : n ≤ 1000)
    (hK : ∀ p' c' w', w'.ownsRow 0 3 1 (.slice p' (n + 1) c') (n + 1) ((ss ++ [z]).map (Value.int .i64)) → (∀ k, (Value.slice p' (n + 1) c').ownBlock = some k → (Value.slice p n c).ownBlock = some k ∨ k = w.heap.size) → w.grownBy w' (Value.slice p n c).ownBlock → wpList Tryz.prog ops Q rest (a.put o.dst (.slice p' (n + 1) c')) w') : wpList Tryz.prog ops Q (o :: rest) a w := by
  have hnews : ∀ j u, [Value.int .i64 z][j]? = some u → w.cell? ((⟨ad, 0, none⟩ : Addr).add j) = some u := by
    intro j u hj
    cases j with
    | zero =>
      have e : (⟨ad, 0, none⟩ : Addr).add 0 = ⟨ad, 0, none⟩ := by unfold Addr.add; split <;> simp_all
      rw [e, hb]
      exact hj
    | succ j => simp at hj
  have main : ∃ g' v' w', (Builtin.append_ #[36, 36] o.type #[.slice p n c, .slice (some ⟨ad, 0, none⟩) 1 1]).run Tryz.prog w = .ok v' w' ∧ Row w' 3 1 g' v' (n + 1) (ss.map (Value.int .i64) ++ [.int .i64 z]) ∧ ((Value.slice p n c).ownBlock = some g' ∨ g' = w.heap.size) ∧ w.grownBy w' (Value.slice p n c).ownBlock := by
    cases hbk : (Value.slice p n c).ownBlock with
    | none =>
      obtain ⟨g', v', w', hr, hrow, hg', hgr, _⟩ := run_append_row (P := Tryz.prog) w 36 o.type 3 (.int .i64 0) 1 8 (by kernel_rfl) infoIn rfl (by decide) w.heap.size _ n _ ⟨h, .inl hbk⟩ ⟨ad, 0, none⟩ 1 1 _ rfl hnews (by simp [Value.oneCell']) (by unfold maxLen; omega) (by omega)
      rw [hbk] at hgr
      exact ⟨g', v', w', hr, hrow, .inr (by omega), hgr⟩
    | some g =>
      obtain ⟨g', v', w', hr, hrow, hg', hgr, _⟩ := run_append_row (P := Tryz.prog) w 36 o.type 3 (.int .i64 0) 1 8 (by kernel_rfl) infoIn rfl (by decide) g _ n _ ⟨h, .inr hbk⟩ ⟨ad, 0, none⟩ 1 1 _ rfl hnews (by simp [Value.oneCell']) (by unfold maxLen; omega) (by omega)
      rw [hbk] at hgr
      exact ⟨g', v', w', hr, hrow, (by rcases hg' with rfl | h; exact .inl rfl; exact .inr h), hgr⟩
  obtain ⟨g', v', w', hr, hrow, hg', hgr⟩ := main
  obtain ⟨p', c', rfl, _⟩ := Row.form hrow
  refine wpList_plain hgd fun K hK' => wp_append_run w s x 36 ho _ _ hs hx hr (hK' _ _ (hK p' c' w' ?_ (fun k hk => ?_) hgr))
  · rw [List.map_append]; exact hrow.1
  · rcases hrow.2 with h2 | h2
    · rw [h2] at hk; cases hk
    · rw [h2] at hk; cases hk; exact hg'
theorem ptrElem_form (v : Value) (y : HD × List MemPlace) (h : ptrElem v = some y) : ∃ c, v = cnP c := by
  unfold ptrElem at h
  split at h
  · exact ⟨none, rfl⟩
  · exact ⟨some _, rfl⟩
  · cases h
/-- What Conns tells. -/
def CosR (w : World) (f : Int → Option Nat) (n : Nat) (e : Ending) (w' : World) : Prop := ∃ (g cap : Nat) (ss : List Int), e = .returned (.slice (some ⟨g, 0, none⟩) n cap) ∧ ss.length = n ∧ (∀ x ∈ ss, (f x).isSome = true) ∧ w'.ownsRow 0 3 1 (.slice (some ⟨g, 0, none⟩) n cap) n (ss.map (Value.int .i64)) ∧ Below w.heap.size w w'
/-- At the loop's head. -/
def CosL (w : World) (mc r0 n : Nat) (D : HD) (v3 : Value) (wr : World) : Prop := ∃ left cnt ss p cap, v3 = .slice p ss.length cap ∧ wr.ranges Tryz.prog 3 ptrElem mc r0 n D left cnt ∧ ColI D left ss ∧ wr.ownsRow 0 3 1 (.slice p ss.length cap) ss.length (ss.map (Value.int .i64)) ∧ (∀ k, (Value.slice p ss.length cap).ownBlock = some k → w.heap.size ≤ k ∧ k ≠ r0) ∧ ss.length + cnt ≤ n ∧ Below w.heap.size w wr
set_option maxHeartbeats 4000000 in
theorem conns_c (h mc n : Nat) (f : Int → Option Nat) (w : World) (c73 : w.cell? ⟨h, 73, none⟩ = some (.bool false)) (c68 : w.cell? ⟨h, 68, none⟩ = some (.map (some mc))) (hm : CnS w mc f n) (h1 : 1 ≤ n) (h2 : n ≤ 100) :
    Calls Tryz.prog 10 #[rp h] w (CosR w f n) := by
  obtain ⟨D, hD1, hD2, hD3, hD4, hD5⟩ := hm
  have H := Lib.hid (And.intro hD2 (And.intro hD3 (And.intro hD4 hD5)))
  have hmcl := World.ownsMap.lt hD1
  clear hD2 hD3 hD4 hD5
  go_enter Tryz.func10, Tryz.ntmps10
  go_wp2_with (at_range; refine wpList_range_own _ rfl _ 60 rfl 3 67 (int_keyed Tryz.underlying3) Tryz.underlying60 ptrElem mc n D rfl hD1 ?_; intro w0 hrg0 hg0 hs0)
  go_frame
  have h0 : CosL w mc w.heap.size n D (.slice none 0 0) w0 := by
    have hb0 : Below w.heap.size w w0 := ⟨hg0.os, hg0.tape, hg0.output, hg0.size, fun k hk => hg0.block k hk (by simp)⟩
    have ho0 : w0.ownsRow 0 3 1 (.slice none 0 0) 0 (([] : List Int).map (Value.int .i64)) := World.ownsRow_nil w0 0 3 1
    have hn0 : ([] : List Int).length + size D ≤ n := by have := H.out.2.2.2; simp only [List.length_nil]; omega
    have hk0 : ∀ k, (Value.slice none 0 0).ownBlock = some k → w.heap.size ≤ k ∧ k ≠ w.heap.size := fun k hk => by simp [Value.ownBlock] at hk
    exact ⟨has D, size D, [], none, 0, rfl, hrg0, ColI.start D, ho0, hk0, hn0, hb0⟩
  have H0 := Lib.hid h0
  clear h0 hrg0 hg0 hs0
  go_loopw [3] (fun v3 wr => CosL w mc w.heap.size n D v3 wr) (fun _ wr => wr.rangeLeft mc w.heap.size)
  case atStart => exact H0.out
  case round =>
    obtain ⟨left, cnt, ss, p, cap, rfl, hrg, hC, hrow, hown, hle, hB⟩ := hrel
    have hleft := hrg.left_eq
    have hHr := Lib.hid (And.intro hrg (And.intro hC (And.intro hown (And.intro hle (And.intro hB hleft)))))
    have hlt := hrg.lt
    have hne := hrg.ne
    clear hC hown hle hB hleft
    go_upto_region 6 with (at_next; refine wpList_next_ranges _ rfl _ rfl 3 (int_keyed Tryz.underlying3) ptrElem (Value.int .i64) cnP (fun key kl hkey => by obtain ⟨x, hx, _⟩ := Maps.keyOf_int_inv Tryz.underlying3 hkey; exact ⟨x, hx⟩) ptrElem_form mc w.heap.size n D left cnt rfl hrg ?_ ?_)
    · intro hc0 hl0
      have hlen := hHr.out.2.1.len hHr.out.1.owns hl0
      have hln : ss.length = n := hlen.1.trans H.out.2.2.2
      have hmem : ∀ x ∈ ss, (f x).isSome = true := fun x hx => by rw [← H.out.2.2.1]; exact hlen.2 x hx
      have hB := hHr.out.2.2.2.2.1
      have hob := hHr.out.2.2.1
      have hpg : ∃ g, p = some ⟨g, 0, none⟩ ∧ (Value.slice p ss.length cap).ownBlock = some g := by
        rcases hrow.2 with ⟨h0, _⟩ | ⟨g', cap', cur, hv, _⟩
        · simp at h0; omega
        · cases hv; exact ⟨g', rfl, rfl⟩
      obtain ⟨g, rfl, hgb⟩ := hpg
      have hgw := (hob g hgb).1
      subst hln
      have HZ := Lib.hid (And.intro hmem (And.intro hB hgw))
      clear hlen hmem hB hob hgb hgw hHr hl0 hrg hlt hne
      go_wp2_with (go_at_call 21; apply Calls.mono; (· (with_reducible refine sort_i g cap ss _ 0 ?_ ?_ ?_); (· exact Nat.zero_le _); (· exact hrow); (· omega)); rintro e w2 ⟨rfl, ⟨ts, hp, ho⟩, hO⟩)
      go_ret
      exact ⟨g, cap, ts, rfl, hp.length_eq, fun x hx => HZ.out.1 x (hp.mem_iff.1 hx), ho, below_only HZ.out.2.1 HZ.out.2.1.size hO (fun k hk e => by have := HZ.out.2.2; omega)⟩
    · intro x c kl yd yp w2 cnt2 hkey hlk hv hat hrg2 hlt2 hg2 hs2 hen
      obtain ⟨x', ex, rfl, hwx⟩ := Maps.keyOf_int_inv Tryz.underlying3 hkey
      cases ex
      have hO2 : Only (fun k => k = w.heap.size) wr w2 := (Only.of_grown hg2).mono (fun k _ hk => by simpa using hk)
      have hrow2 := owns_only hrow hO2 (fun k hk => (hHr.out.2.2.1 k hk).2)
      have hoa : Only (fun _ => False) w2 (w2.alloc (.cells #[.int .i64 x] 3)) := (Only.refl _ _).alloc _
      have hrow3 := owns_only hrow2 hoa (fun k hk => fun h => h)
      have hc3 := (Blk.new w2 3 #[.int .i64 x]).c 0
      have hle := hHr.out.2.2.2.1
      have hC2 := hHr.out.2.1.step hlk hat
      have HN := Lib.hid (And.intro hrg2 (And.intro hC2 (And.intro hlt2 (And.intro hO2 (And.intro hg2 hle)))))
      have hb0 : ss.length ≤ 1000 := by omega
      clear hrg2 hC2 hlt2 hO2 hg2 hs2 hle hrow2 hoa hlk hat hv hkey hrow hrg hlt hne
      go_wp2_with (refine wpList_appI rfl (.tmp 22) (.tmp 24) rfl rfl rfl hrow3 hc3 hb0 ?_; intro p' c' w3 ho3 hob3 hg3)
      have hown := hHr.out.2.2.1
      have rg3 := (HN.out.1.alloc (.cells #[.int .i64 x] 3)).kept hg3 (fun e => by have := (hown mc e.symm).1; omega) (fun e => (hown w.heap.size e.symm).2 rfl)
      have hlr := HN.out.1.lt
      have hl1 : (ss ++ [x]).length = ss.length + 1 := by rw [List.length_append]; rfl
      have hlt2 := HN.out.2.2.1
      have hle := HN.out.2.2.2.2.2
      refine ⟨⟨_, cnt2, ss ++ [x], p', c', by rw [hl1], rg3, HN.out.2.1, by rw [hl1]; exact ho3, fun k hk => ?_, by omega, ?_⟩, ?_⟩
      · rw [hl1] at hk
        rcases hob3 k hk with e | e
        · exact hown k e
        · rw [World.size_alloc] at e
          omega
      · have hB := hHr.out.2.2.2.2.1
        have h5 := below_only hB hB.size HN.out.2.2.2.1 (fun k hk e => by omega)
        have h6 := h5.alloc h5.size (.cells #[.int .i64 x] 3)
        exact below_only h6 h6.size (Only.of_grown hg3) (fun k hk e => by have := (hown k e.symm).1; omega)
      · rw [rg3.left_eq, hHr.out.2.2.2.2.2]
        exact hlt2
end Go.Proofs.YtolgaapiedbkfaaGreat
/-
  The contract of host's Recover, behind a freeze. Conditions: those of each theorem.
-/
namespace Go.Proofs.YtolgaapiedbkfaaGreat
open Go.RowKit Go.Kx Go.Maps
set_option linter.unusedVariables false
set_option linter.unusedSimpArgs false
set_option maxRecDepth 100000
/-- The entries behind Accept and Freeze. -/
def E3 (c : Nat) : List (List UInt8) := [4 :: be c 2, 2 :: be 8 4, 3 :: be c 2 ++ frE c]
def Ent3 (c : Nat) (w : World) (e : Ending) (w' : World) : Prop := ∃ p cp, e = .returned (.slice p 3 cp) ∧ RwI w' (fun x => w.heap.size ≤ x ∧ x < w'.heap.size) (.slice p 3 cp) (E3 c) ∧ Below w.heap.size w w'
theorem E3_len (c : Nat) : ∀ b ∈ E3 c, b.length ≤ 5000 := by
  intro b hb
  unfold E3 at hb
  simp only [List.mem_cons, List.not_mem_nil, or_false] at hb
  rcases hb with rfl | rfl | rfl
  · rw [List.length_cons, be_length]; decide
  · rw [List.length_cons, be_length]; decide
  · rw [List.length_append, List.length_cons, be_length, frE_len]; decide
theorem entries_3 (P : Nat → Prop) (j r g n k used c : Nat) (L : List UInt8) (w : World) (h : JI w P j r g n k L (E3 c) used) : Calls Tryz.prog 40 #[rp j] w (Ent3 c w) :=
  (entries_c P j r g n k used L (E3 c) w h (by show 3 ≤ 1000; decide) (E3_len c)).mono fun e w' ⟨p, cp, h1, h2, h3⟩ => ⟨p, cp, h1, h2.low, h3⟩
theorem E3_0 (c : Nat) {w : World} {P : Nat → Prop} {p : Option Addr} {cp : Nat} (h : RwI w P (.slice p 3 cp) (E3 c)) : ∃ g q cq, p = some ⟨g, 0, none⟩ ∧ w.cell? ⟨g, 0, none⟩ = some (.slice (some q) 3 cq) ∧ Rd w P (some q) (4 :: be c 2) := by
  obtain ⟨g, q, cq, h1, h2, h3, _⟩ := h.cell 0 (by show 0 < 3; decide)
  have e : ((E3 c)[0]'(by show 0 < 3; decide)).length = 3 := by show (4 :: be c 2).length = 3; rw [List.length_cons, be_length]
  rw [e] at h2
  exact ⟨g, q, cq, h1, h2, h3⟩
theorem E3_1 (c : Nat) {w : World} {P : Nat → Prop} {p : Option Addr} {cp : Nat} (h : RwI w P (.slice p 3 cp) (E3 c)) : ∃ g q cq, p = some ⟨g, 0, none⟩ ∧ w.cell? ⟨g, 1, none⟩ = some (.slice (some q) 5 cq) ∧ Rd w P (some q) (2 :: be 8 4) := by
  obtain ⟨g, q, cq, h1, h2, h3, _⟩ := h.cell 1 (by show 1 < 3; decide)
  have e : ((E3 c)[1]'(by show 1 < 3; decide)).length = 5 := by show (2 :: be 8 4).length = 5; rw [List.length_cons, be_length]
  rw [e] at h2
  exact ⟨g, q, cq, h1, h2, h3⟩
theorem E3_2 (c : Nat) {w : World} {P : Nat → Prop} {p : Option Addr} {cp : Nat} (h : RwI w P (.slice p 3 cp) (E3 c)) : ∃ g q cq, p = some ⟨g, 0, none⟩ ∧ w.cell? ⟨g, 2, none⟩ = some (.slice (some q) 271 cq) ∧ Rd w P (some q) (3 :: be c 2 ++ frE c) := by
  obtain ⟨g, q, cq, h1, h2, h3, _⟩ := h.cell 2 (by show 2 < 3; decide)
  have e : ((E3 c)[2]'(by show 2 < 3; decide)).length = 271 := by show (3 :: be c 2 ++ frE c).length = 271; rw [List.length_append, List.length_cons, be_length, frE_len]
  rw [e] at h2
  exact ⟨g, q, cq, h1, h2, h3⟩
theorem infoFo : (Tryz.prog.info? 56).map (fun i => (i.zero, i.size, i.bytes)) = some (some (.agg #[.int .i64 0, .int .i64 0]), 2, 16) := by kernel_rfl
theorem app_fo (w : World) (ty : TypeId) (G : Nat) (x y : Int) (hb : Blk w G 56 #[.int .i64 x, .int .i64 y]) : ∃ q c w', (Builtin.append_ #[52, 52] ty #[.slice none 0 0, .slice (some ⟨G, 0, none⟩) 1 1]).run Tryz.prog w = .ok (.slice (some ⟨q, 0, none⟩) 1 c) w' ∧ w'.cell? ⟨q, 0, none⟩ = some (.int .i64 x) ∧ w'.cell? ⟨q, 1, none⟩ = some (.int .i64 y) ∧ Below w.heap.size w w' := by
  obtain ⟨g', v', w', hr, hrow, _, hgr, _⟩ := run_append_row (P := Tryz.prog) w 52 ty 56 _ 2 16 (by kernel_rfl) infoFo rfl (by decide) w.heap.size (.slice none 0 0) 0 [] ⟨World.ownsRow_nil _ _ _ _, .inl rfl⟩ ⟨G, 0, none⟩ 1 1 [.int .i64 x, .int .i64 y] rfl (fun j u hj => by
    rw [add_at G j, hb.c, ← Array.getElem?_toList]
    exact hj) (by simp [Value.oneCell']) (by unfold maxLen; omega) (by omega)
  have hr1 := hrow.1
  rcases hr1.2 with ⟨h0, h1⟩ | ⟨g2, cap, cur, hv, _⟩
  · omega
  · subst hv
    exact ⟨g2, cap, w', hr, (World.ownsRow.cellAt hr1 0 (by decide)), (World.ownsRow.cellAt hr1 1 (by decide)), ⟨hgr.os, hgr.tape, hgr.output, hgr.size, fun k hk => hgr.block k hk (by simp [Value.ownBlock])⟩⟩
theorem wpList_appE {w : World} {ops : Array Oper} {rest : List Oper} {o : Oper} {a : Act} {Q : Exit → Act → World → Prop} (hgd : o.guard = none) (s x : Operand) (t : TypeId)
    (ho : (o.op, o.type) = (.call { callee := .builtin .append, args := #[s, x], argTypes := #[t, t] }, t)) {v y v' : Value} {w' : World} (hs : a.eval s = v) (hx : a.eval x = y) (hr : (Builtin.append_ #[t, t] t #[v, y]).run Tryz.prog w = .ok v' w')
    (h : wpList Tryz.prog ops Q rest (a.put o.dst v') w') : wpList Tryz.prog ops Q (o :: rest) a w := by
  injection ho with e1 e2
  exact wpList_plain hgd fun K hK => wp_append_run w s x t e1 _ _ hs hx (by rw [e2]; exact hr) (hK _ _ h)
/-- What Recover tells. -/
def RecR (c : Nat) (w : World) (e : Ending) (w' : World) : Prop := ∃ h2 mc2 q cap b, e = .returned (.tuple #[rp h2, .slice (some ⟨q, 0, none⟩) 1 cap, .int .i64 0]) ∧ w'.cell? ⟨q, 0, none⟩ = some (.int .i64 (c : Int)) ∧ w'.cell? ⟨q, 1, none⟩ = some (.int .i64 1) ∧ w'.cell? ⟨h2, 73, none⟩ = some (.bool false) ∧ w'.cell? ⟨h2, 68, none⟩ = some (.map (some mc2)) ∧ CnS w' mc2 (updF (fun _ => none) (c : Int) (some b)) 1 ∧ Below w.heap.size w w'
set_option maxHeartbeats 8000000 in
theorem recover_c (r g n k c cp : Nat) (L : List UInt8) (T : Nat → Prop) (p : Option Addr) (w : World) (hD : DiskI w r g n k L) (h4 : 4 ≤ n) (hN : nwF L = (1, 0, true)) (hE : Lays L n 0 0 (E3 c)) (hch : RwI w T (.slice p 1 cp) [[1, 2, 3]]) (hc : c ≤ 65535) :
    Calls Tryz.prog 16 #[rp r, .agg (k7.map B8).toArray, .slice p 1 cp] w (RecR c w) := by
  have hkz : ((k7.map B8).toArray).size = 32 := rfl
  have hmm := @run_makeMap Tryz.prog
  have H := Lib.hid (And.intro hD (And.intro hN (And.intro hE hch)))
  clear hD hN hE hch
  go_enter Tryz.func16, Tryz.ntmps16
  go_upto_region 1 with (fail)
  refine wp_world (fun W => ArrB W w.heap.size 29 k7 ∧ Below w.heap.size w W) ?_ ?_
  · exact ⟨ArrB.new w _ k7, (Below.refl _ w).alloc (Nat.le_refl _) _⟩
  intro W hW
  have HW := Lib.hid hW
  clear hW
  go_upto_region 4 with (go_at_call 39; apply Calls.mono; (· (with_reducible refine open_c r g n k L (E3 c) _ ?_ ?_ ?_ ?_); (· exact H.out.1.below HW.out.2); (· exact h4); (· exact H.out.2.1); (· exact H.out.2.2.1)); rintro e w1 ⟨j, rfl, hJ, hj, b1⟩)
  have hK1 := HW.out.1.below b1
  have hC1 := (H.out.2.2.2.keep (Only.of_below HW.out.2 : Only (fun _ => False) _ _) (fun _ _ h => h)).keep (Only.of_below b1 : Only (fun _ => False) _ _) (fun _ _ h => h)
  have H1 := Lib.hid (And.intro hJ (And.intro hj (And.intro b1 (And.intro hK1 hC1))))
  clear hJ hj b1 hK1 hC1
  go_upto_region 5 with (first
    | (refine ld_arrB rfl 29 (.tmp 4) rfl w.heap.size rfl _ k7 H1.out.2.2.2.1 _ _ Tryz.underlying29 (by rw [k7_len]; exact Tryz.infoB32) ?_)
    | (go_at_call 15; apply Calls.mono; (· (with_reducible refine start_c j T p 1 cp _ ?_); (· exact H1.out.2.2.2.2)); rintro e w3 ⟨h, mc, mh, ch, rfl, s1, s2, s3, s4, s5, s6, s7, s8, s9, s10⟩))
  refine wp_world (fun V => FI V (w3.heap.size + 1 + 1) h mc mh w3.heap.size (w3.heap.size + 1) j 0 0 (fun _ => none) 0 0 0 0 (fun _ => false) (fun _ => false) (fun _ => false) ∧ Below w3.heap.size w3 V) ?_ ?_
  · have m1 := BmS.new w3
    have x1 : Below w3.heap.size w3 (w3.alloc (.map #[] 0)) := (Below.refl _ w3).alloc (Nat.le_refl _) _
    have m2 := BmS.new (w3.alloc (.map #[] 0))
    have x2 : Below (w3.alloc (.map #[] 0)).heap.size (w3.alloc (.map #[] 0)) ((w3.alloc (.map #[] 0)).alloc (.map #[] 0)) := (Below.refl _ _).alloc (Nat.le_refl _) _
    have m3 := Blk.new ((w3.alloc (.map #[] 0)).alloc (.map #[] 0)) 109 #[rp h, .map (some w3.heap.size), .map (some (w3.heap.size + 1))]
    have x3 : Below ((w3.alloc (.map #[] 0)).alloc (.map #[] 0)).heap.size ((w3.alloc (.map #[] 0)).alloc (.map #[] 0)) (((w3.alloc (.map #[] 0)).alloc (.map #[] 0)).alloc (.cells #[rp h, .map (some w3.heap.size), .map (some (w3.heap.size + 1))] 109)) := (Below.refl _ _).alloc (Nat.le_refl _) _
    rw [World.size_alloc] at m2
    rw [World.size_alloc, World.size_alloc] at m3
    have xx := (x1.trans (x2.mono x1.size)).trans (x3.mono (by rw [World.size_alloc, World.size_alloc]; omega))
    have o1 : Only (fun _ => False) _ _ := Only.of_below (x2)
    have o2 : Only (fun _ => False) _ _ := Only.of_below (x3)
    have oo : Only (fun _ => False) _ _ := Only.of_below xx
    have l1 := s2.lt
    have l2 := s3.lt
    have l3 := s1.lt
    exact ⟨⟨m3, ⟨ch, s1.only oo (fun h => h)⟩, s2.only oo (fun h => h), (BmS.of_had (s3.only oo (fun h => h))), (m1.only o1 (fun h => h)).only o2 (fun h => h), m2.only o2 (fun h => h), by omega⟩, xx⟩
  intro V hV
  have hs1 := H1.out.2.2.1.size
  have hsW := HW.out.2.size
  have hs3 := s10.size
  have bw3 : Below w.heap.size w w3 := (HW.out.2.trans (H1.out.2.2.1.mono hsW)).trans (s10.mono (Nat.le_trans hsW hs1))
  obtain ⟨F, hF⟩ : ∃ x, x = w3.heap.size + 1 + 1 := ⟨_, rfl⟩
  obtain ⟨md, hmd⟩ : ∃ x, x = w3.heap.size + 1 := ⟨_, rfl⟩
  obtain ⟨ml, hml⟩ : ∃ x, x = w3.heap.size := ⟨_, rfl⟩
  have hge : w.heap.size ≤ F ∧ w.heap.size ≤ md ∧ w.heap.size ≤ ml ∧ w.heap.size ≤ h ∧ w.heap.size ≤ mc ∧ w.heap.size ≤ mh := by omega
  have hV2 := bw3.trans (hV.2.mono bw3.size)
  have hJV := ((H1.out.1).below s10).below hV.2
  have hV1 := hV.1
  rw [← hF, ← hmd, ← hml] at hV1
  rw [← hF, ← hmd, ← hml]
  have HV := Lib.hid (And.intro hV1 (And.intro hV2 (And.intro hJV hge)))
  clear hV hV1 hV2 hJV hge hF hmd hml hs1 hsW hs3 bw3 s1 s2 s3 s4 s5 s6 s7 s8 s9 s10 hmm
  go_wp2_with (go_at_call 40; apply Calls.mono; (· (with_reducible refine entries_3 (fun x => W.heap.size ≤ x ∧ x ≠ j) j r g n k (usedF (E3 c)) c L _ ?_); (· exact HV.out.2.2.1)); rintro e w4 ⟨pE, cE, rfl, hrow, b4⟩)
  have hiV := HV.out.1
  have hltV := hiV.lt
  have hi4 := hiV.below b4
  have hs4 := b4.size
  have H4 := Lib.hid (And.intro hi4 (And.intro hrow (And.intro b4 hltV)))
  obtain ⟨gE, q0, cq0, rfl, e0, R0⟩ := E3_0 c hrow
  have HR0 := Lib.hid R0
  clear hiV hi4 hrow b4 R0
  refine wp_loop_rounds 4 ?_
  rw [rounds_succ]
  go_wp2_with (go_at_call 41; apply Calls.mono; (· (with_reducible refine entry_begun F h mc mh ml md j 0 0 0 0 0 0 (fun _ => none) (fun _ => false) (fun _ => false) (fun _ => false) c cq0 (fun x => V.heap.size ≤ x ∧ x < w4.heap.size) q0 _ ?_ ?_ ?_ ?_ ?_); (· exact H4.out.1); (· exact HR0.out); (· exact hc); (· rfl); (· exact ⟨by decide, by decide⟩)); rintro e w5 ⟨rfl, b, hb, hi5, hb5, o5⟩)
  have hPn : ∀ x, (V.heap.size ≤ x ∧ x < w4.heap.size) → x ≠ F ∧ x ≠ h ∧ x ≠ mc ∧ x ≠ mh ∧ x ≠ ml ∧ x ≠ md ∧ x < w4.heap.size := fun x hx => by have := H4.out.2.2.2; omega
  have hrow5 := H4.out.2.1.keep o5 (fun x hx e => by have := hPn x hx; omega)
  have ho5 := o5
  obtain ⟨gE', q1, cq1, hg1, e1, R1⟩ := E3_1 c hrow5
  cases hg1
  have H5 := Lib.hid (And.intro hi5 (And.intro hb5 (And.intro hb (And.intro hrow5 (And.intro o5 R1)))))
  clear hi5 hb5 hrow5 o5 R1 ho5 e0
  rw [rounds_succ]
  go_wp2_with (go_at_call 41; apply Calls.mono; (· (with_reducible refine entry_count F h mc mh ml md j 0 0 1 1 0 0 (updF (fun _ => none) (c : Int) (some b)) (updB (fun _ => false) (c : Int) true) (fun _ => false) (fun _ => false) cq1 (fun x => V.heap.size ≤ x ∧ x < w4.heap.size) q1 _ ?_ ?_); (· exact H5.out.1); (· exact H5.out.2.2.2.2.2)); rintro e w6 ⟨rfl, hi6, o6⟩)
  have hrow6 := H5.out.2.2.2.1.keep o6 (fun x hx e => by have := hPn x hx; omega)
  have hbn : b ≠ F ∧ b ≠ h ∧ b ≠ mc ∧ b ≠ mh ∧ b ≠ ml ∧ b ≠ md := by have := H5.out.2.2.1; have := H4.out.2.2.2; omega
  have hb6 := H5.out.2.1.only o6 (by omega)
  obtain ⟨gE', q2, cq2, hg2, e2, R2⟩ := E3_2 c hrow6
  cases hg2
  have H6 := Lib.hid (And.intro hi6 (And.intro hb6 (And.intro hbn (And.intro hrow6 (And.intro o6 R2)))))
  clear hi6 hb6 hbn hrow6 o6 R2 e1
  rw [rounds_succ]
  go_wp2_with (go_at_call 41; apply Calls.mono; (· (with_reducible refine entry_snap F h mc mh ml md j 8 8 1 1 0 0 b (updF (fun _ => none) (c : Int) (some b)) (updB (fun _ => false) (c : Int) true) (fun _ => false) (fun _ => false) c cq2 (fun x => V.heap.size ≤ x ∧ x < w4.heap.size) q2 _ ?_ ?_ ?_ ?_ ?_ ?_ ?_); (· exact H6.out.1); (· exact H6.out.2.1); (· exact H6.out.2.2.1); (· exact H6.out.2.2.2.2.2); (· exact hc); (· exact if_pos rfl); (· exact ⟨by decide, by decide⟩)); rintro e w7 ⟨rfl, hi7, o7⟩)
  have g7 := hi7.g
  obtain ⟨f70, f71, f72, f768, _, _, _, f773⟩ := g7
  have H7 := Lib.hid (And.intro hi7 o7)
  clear hi7 o7 e2
  rw [rounds_succ]
  go_wp2_with (go_at_call 10; apply Calls.mono; (· (with_reducible refine conns_c h mc 1 (updF (fun _ => none) (c : Int) (some b)) _ ?_ ?_ ?_ ?_ ?_); (· exact f773); (· exact f768); (· exact H7.out.1.c); (· decide); (· decide)); rintro e w8 ⟨g8, cap8, ss, rfl, hl8, hm8, ho8, b8⟩)
  have hx8 : ∃ x, ss = [x] := by
    match ss, hl8 with
    | [x], _ => exact ⟨x, rfl⟩
  obtain ⟨x, rfl⟩ := hx8
  have hxc : x = (c : Int) := by
    have h1 := hm8 x (by simp)
    unfold updF at h1
    by_cases e : x = (c : Int)
    · exact e
    · rw [if_neg e] at h1; cases h1
  subst hxc
  have e8 : w8.cell? ⟨g8, 0, none⟩ = some (.int .i64 (c : Int)) := World.ownsRow.cellAt ho8 0 (by decide)
  have hi8 := H7.out.1.below b8
  obtain ⟨f80, f81, f82, _⟩ := hi8.g
  have hl1 := run_lookup_bm hi8.dd (c : Int) (WalkArith.wf_i64 (by omega))
  have hl2 := run_lookup_bm hi8.dl (c : Int) (WalkArith.wf_i64 (by omega))
  rw [show updB (fun _ => false) (c : Int) true (c : Int) = true from if_pos rfl] at hl1
  rw [show updB (fun _ => false) (c : Int) false (c : Int) = false from if_pos rfl] at hl2
  have H8 := Lib.hid (And.intro hi8 b8)
  clear hi8 b8 hl8 hm8 ho8 f70 f71 f72 f768 f773
  refine wp_loop_rounds 2 ?_
  rw [rounds_succ]
  go_upto_region 16 with (fail)
  clear hl1 hl2 f80 f81 f82 e8
  obtain ⟨q9, c9, w9, hr9, y0, y1, b9⟩ := app_fo (w8.alloc (.cells #[.int .i64 (c : Int), .int .i64 1] 56)) 52 w8.heap.size (c : Int) 1 (Blk.new w8 56 #[.int .i64 (c : Int), .int .i64 1])
  have ba : Below w8.heap.size w8 (w8.alloc (.cells #[.int .i64 (c : Int), .int .i64 1] 56)) := (Below.refl _ _).alloc (Nat.le_refl _) _
  have b89 := ba.trans (b9.mono ba.size)
  have hi9 := H8.out.1.below b89
  obtain ⟨f90, _⟩ := hi9.g
  have H9 := Lib.hid (And.intro hi9 b89)
  clear hi9 b89 b9 ba
  go_wp2_with (refine wpList_appE (v := .slice none 0 0) (y := .slice (some ⟨w8.heap.size, 0, none⟩) 1 1) rfl (.tmp 71) (.tmp 74) 52 rfl rfl rfl hr9 ?_)
  rw [rounds_succ]
  go_wp2
  have hge := HV.out.2.2.2
  have x4 := HV.out.2.1.trans (H4.out.2.2.1.mono HV.out.2.1.size)
  have x5 := below_only x4 x4.size H5.out.2.2.2.2.1 (fun k hk e => by omega)
  have x6 := below_only x5 x5.size H6.out.2.2.2.2.1 (fun k hk e => by omega)
  have x7 := below_only x6 x6.size H7.out.2 (fun k hk e => by have := H5.out.2.2.1; have := x4.size; omega)
  have x8 := x7.trans (H8.out.2.mono x7.size)
  have x9 := x8.trans (H9.out.2.mono x8.size)
  obtain ⟨_, _, _, g68, _, _, _, g73⟩ := H9.out.1.g
  exact bodyPost_ret (v := .tuple #[rp h, .slice (some ⟨q9, 0, none⟩) 1 c9, .int .i64 0]) (results_ttt 6 7 8 Tryz.results16 _ _ rfl rfl rfl) rfl ⟨h, mc, q9, c9, b, rfl, y0, y1, g73, g68, H9.out.1.c, x9⟩
end Go.Proofs.YtolgaapiedbkfaaGreat
/-
  Plain: what stands on the disk behind Begin, Accept and Freeze is found again. Conditions: those of each theorem.
-/
namespace Go.Proofs.YtolgaapiedbkfaaGreat
open Go.RowKit Go.Kx
set_option linter.unusedVariables false
set_option linter.unusedSimpArgs false
set_option maxRecDepth 100000
theorem splice_len' (L b : List UInt8) (o : Nat) (h : o + b.length ≤ L.length) : (splice L o b).length = L.length := by
  unfold splice
  simp only [List.length_append, List.length_take, List.length_drop]
  omega
theorem sub_lo (L b : List UInt8) (o p m : Nat) (h : p + m ≤ o) (ho : o ≤ L.length) : ((splice L o b).drop p).take m = (L.drop p).take m := by
  unfold splice
  rw [List.drop_append_of_le_length (by rw [List.length_take]; omega), List.take_append_of_le_length (by rw [List.length_drop, List.length_take]; omega), List.drop_take, List.take_take]
  congr 1
  omega
theorem sub_hi (L b : List UInt8) (o p m : Nat) (h : o + b.length ≤ p) (ho : o ≤ L.length) : ((splice L o b).drop p).take m = (L.drop p).take m := by
  have e : (splice L o b).drop p = L.drop p := by
    unfold splice
    rw [← List.append_assoc, List.drop_append, List.drop_eq_nil_of_le (by rw [List.length_append, List.length_take]; omega), List.nil_append, List.drop_drop, List.length_append, List.length_take]
    congr 1
    omega
  rw [e]
theorem sub_eq (L b : List UInt8) (o m : Nat) (hm : m = b.length) (ho : o ≤ L.length) : ((splice L o b).drop o).take m = b := by
  unfold splice
  rw [List.drop_left' (by rw [List.length_take]; omega), List.take_left' hm.symm]
theorem secF_lo (L b : List UInt8) (o i : Nat) (h : (i + 1) * 64 ≤ o) (ho : o ≤ L.length) : secF (splice L o b) i = secF L i := sub_lo L b o _ _ (by omega) ho
theorem secF_hi (L b : List UInt8) (o i : Nat) (h : o + b.length ≤ i * 64) (ho : o ≤ L.length) : secF (splice L o b) i = secF L i := sub_hi L b o _ _ h ho
theorem secF_z (n i : Nat) (h : i < n) : secF (List.replicate (64 * n) 0) i = List.replicate 64 0 := by
  unfold secF
  rw [List.drop_replicate, List.take_replicate]
  congr 1
  omega
theorem okF_z : okF (List.replicate 64 0) = false := by
  have h : List.replicate 64 (0 : UInt8) ≠ slotF (genF (List.replicate 64 0)) (arF (List.replicate 64 0)) := fun e => by
    have e1 := congrArg List.head? e
    unfold slotF slotH at e1
    simp only [List.append_assoc, List.cons_append, List.head?_cons] at e1
    exact absurd e1 (by decide)
  unfold okF
  rw [decide_eq_false h, Bool.and_false]
theorem nwF_z (n : Nat) (h : 2 ≤ n) : nwF (List.replicate (64 * n) 0) = (0, 0, false) := by
  have h1 : ¬ (okF (List.replicate 64 0) = true ∧ ((nwS (List.replicate (64 * n) 0) 1).2.2 = false ∨ (nwS (List.replicate (64 * n) 0) 1).1 < genF (List.replicate 64 0))) := fun e => by rw [okF_z] at e; exact absurd e.1 (by decide)
  have h0 : ¬ (okF (List.replicate 64 0) = true ∧ ((nwS (List.replicate (64 * n) 0) 0).2.2 = false ∨ (nwS (List.replicate (64 * n) 0) 0).1 < genF (List.replicate 64 0))) := fun e => by rw [okF_z] at e; exact absurd e.1 (by decide)
  unfold nwF
  rw [nwS, secF_z n 1 (by omega), if_neg h1, nwS, secF_z n 0 (by omega), if_neg h0]
  rfl
theorem genF_1 : genF (slotF 1 0) = 1 := by
  have e : ((slotF 1 0).drop 4).take 8 = bgK 1 8 := by
    unfold slotF
    rw [List.drop_append_of_le_length (by rw [slotH_len]; decide), List.take_append_of_le_length (by rw [List.length_drop, slotH_len]; decide)]
    decide +kernel
  unfold genF
  rw [e]
  decide +kernel
theorem arF_1 : arF (slotF 1 0) = 0 := by
  unfold arF slotF
  rw [List.getD_eq_getElem?_getD, List.getElem?_append_left (by rw [slotH_len]; decide)]
  decide +kernel
theorem okF_1 : okF (slotF 1 0) = true := by
  unfold okF
  rw [genF_1, arF_1]
  simp
theorem nwF_1 (L : List UInt8) (h0 : secF L 0 = List.replicate 64 0) (h1 : secF L 1 = slotF 1 0) : nwF L = (1, 0, true) := by
  have h : ¬ (okF (List.replicate 64 0) = true ∧ ((nwS L 0).2.2 = false ∨ (nwS L 0).1 < genF (List.replicate 64 0))) := fun e => by rw [okF_z] at e; exact absurd e.1 (by decide)
  have e1 : nwS L 1 = (0, 0, false) := by rw [nwS, h0, if_neg h]; rfl
  unfold nwF
  rw [nwS, h1, e1, if_pos ⟨okF_1, .inl rfl⟩, genF_1, arF_1]
theorem fmF_len (n : Nat) (h : 2 ≤ n) : (fmF (List.replicate (64 * n) 0)).length = 64 * n := by
  have hl : (List.replicate (64 * n) (0 : UInt8)).length = 64 * n := List.length_replicate
  have hz : (List.replicate 64 (0 : UInt8)).length = 64 := List.length_replicate
  unfold fmF wrF
  have a1 := splice_len' (List.replicate (64 * n) 0) (List.replicate 64 0) (0 * 64) (by rw [hl, hz]; omega)
  rw [splice_len' _ _ _ (by rw [a1, hl, slotF_len]; omega), a1, hl]
theorem fmF_sec (n i : Nat) (h : 2 ≤ n) (hi : i < n) : secF (fmF (List.replicate (64 * n) 0)) i = if i = 1 then slotF 1 0 else List.replicate 64 0 := by
  have hl : (List.replicate (64 * n) (0 : UInt8)).length = 64 * n := List.length_replicate
  have hz : (List.replicate 64 (0 : UInt8)).length = 64 := List.length_replicate
  have a1 := splice_len' (List.replicate (64 * n) 0) (List.replicate 64 0) (0 * 64) (by rw [hl, hz]; omega)
  unfold fmF wrF
  by_cases e : i = 1
  · subst e
    rw [if_pos rfl]
    exact sub_eq _ _ _ 64 (by rw [slotF_len]) (by rw [a1, hl]; omega)
  · rw [if_neg e]
    by_cases e0 : i = 0
    · subst e0
      rw [secF_lo _ _ _ _ (by omega) (by rw [a1, hl]; omega)]
      exact sub_eq _ _ _ 64 (by rw [hz]) (by omega)
    · rw [secF_hi _ _ _ _ (by rw [slotF_len]; omega) (by rw [a1, hl]; omega), secF_hi _ _ _ _ (by rw [hz]; omega) (by omega), secF_z n i hi]
/-- Three entries of three, five and 271 bytes. -/
theorem disk3 (b1 b2 b3 : List UInt8) (h1 : b1.length = 3) (h2 : b2.length = 5) (h3 : b3.length = 271) :
    nwF (splice (splice (splice (fmF (List.replicate (64 * 200) 0)) ((2 + 0) * 64) (secsF 1 0 b1)) ((2 + 1) * 64) (secsF 1 1 b2)) ((2 + (1 + 1)) * 64) (secsF 1 2 b3)) = (1, 0, true) ∧
    Lays (splice (splice (splice (fmF (List.replicate (64 * 200) 0)) ((2 + 0) * 64) (secsF 1 0 b1)) ((2 + 1) * 64) (secsF 1 1 b2)) ((2 + (1 + 1)) * 64) (secsF 1 2 b3)) 200 0 0 [b1, b2, b3] := by
  have n1 : needF 3 = 1 := by decide
  have n2 : needF 5 = 1 := by decide
  have n3 : needF 271 = 5 := by decide
  have s1 : (secsF 1 0 b1).length = 64 := by rw [secsF_len, h1, n1]
  have s2 : (secsF 1 1 b2).length = 64 := by rw [secsF_len, h2, n2]
  have s3 : (secsF 1 2 b3).length = 320 := by rw [secsF_len, h3, n3]
  have l0 := fmF_len 200 (by omega)
  have f0 := fun i hi => fmF_sec 200 i (by omega) hi
  generalize fmF (List.replicate (64 * 200) 0) = L0 at *
  obtain ⟨S1, hS1⟩ : ∃ S, secsF 1 0 b1 = S := ⟨_, rfl⟩
  obtain ⟨S2, hS2⟩ : ∃ S, secsF 1 1 b2 = S := ⟨_, rfl⟩
  obtain ⟨S3, hS3⟩ : ∃ S, secsF 1 2 b3 = S := ⟨_, rfl⟩
  rw [hS1] at s1
  rw [hS2] at s2
  rw [hS3] at s3
  rw [hS1, hS2, hS3]
  have l1 : (splice L0 ((2 + 0) * 64) S1).length = 64 * 200 := by rw [splice_len' _ _ _ (by omega), l0]
  have l2 : (splice (splice L0 ((2 + 0) * 64) S1) ((2 + 1) * 64) S2).length = 64 * 200 := by rw [splice_len' _ _ _ (by omega), l1]
  have e1 : ((splice (splice L0 ((2 + 0) * 64) S1) ((2 + 1) * 64) S2).drop ((2 + 0) * 64)).take 64 = S1 := by
    rw [sub_lo _ _ _ _ _ (by omega) (by omega)]
    exact sub_eq _ _ _ _ s1.symm (by omega)
  have e2 : ((splice (splice L0 ((2 + 0) * 64) S1) ((2 + 1) * 64) S2).drop ((2 + 1) * 64)).take 64 = S2 := sub_eq _ _ _ _ s2.symm (by omega)
  refine ⟨nwF_1 _ ?_ ?_, ?_⟩
  · rw [secF_lo _ _ _ _ (by omega) (by omega), secF_lo _ _ _ _ (by omega) (by omega), secF_lo _ _ _ _ (by omega) (by omega), f0 0 (by omega), if_neg (by omega)]
  · rw [secF_lo _ _ _ _ (by omega) (by omega), secF_lo _ _ _ _ (by omega) (by omega), secF_lo _ _ _ _ (by omega) (by omega), f0 1 (by omega), if_pos rfl]
  · have a200 : areaF 200 = 99 := by decide
    refine ⟨⟨by omega, by omega, by rw [h1, n1, a200]; omega, ?_⟩, ⟨by omega, by omega, by rw [h1, h2, n1, n2, a200]; omega, ?_⟩, ⟨by omega, by omega, by rw [h1, h2, h3, n1, n2, n3, a200]; omega, ?_⟩, ?_, ?_⟩
    · show _ = secsF 1 0 b1
      rw [hS1, h1, n1, sub_lo _ _ _ _ _ (by omega) (by omega)]
      exact e1
    · show _ = secsF 1 1 b2
      rw [hS2, h1, h2, n1, n2, sub_lo _ _ _ _ _ (by omega) (by omega)]
      exact e2
    · show _ = secsF 1 2 b3
      rw [hS3, h1, h2, h3, n1, n2, n3]
      exact sub_eq _ _ _ _ (by omega) (by omega)
    · rw [h1, h2, h3, n1, n2, n3, a200]; omega
    · rw [h1, h2, h3, n1, n2, n3, secF_hi _ _ _ _ (by omega) (by omega), secF_hi _ _ _ _ (by omega) (by omega), secF_hi _ _ _ _ (by omega) (by omega), f0 _ (by omega), if_neg (by omega)]
      decide +kernel
end Go.Proofs.YtolgaapiedbkfaaGreat
/-
  The law's key, chain and stands. No condition.
-/
namespace Go.Proofs.YtolgaapiedbkfaaGreat
open Go.RowKit Go.Kx Go.Maps
set_option linter.unusedVariables false
set_option linter.unusedSimpArgs false
set_option maxRecDepth 100000
theorem Tryz.builtKey : Tryz.prog.built 29 [(0, .int .u8 7)] = some (k7.map B8).toArray := by kernel_rfl
theorem Tryz.infoKey : (Tryz.prog.info? 29).map (fun i => (i.zero, i.size)) = some (some (.agg ((List.replicate 32 (0 : UInt8)).map B8).toArray), 32) := by kernel_rfl
theorem key_c (w : World) : Calls Tryz.prog 6 #[] w (BackR w (.agg (k7.map B8).toArray)) := by
  have hz : ∀ u : World, (zeroValue 29).run Tryz.prog u = .ok (.agg ((List.replicate 32 (0 : UInt8)).map B8).toArray) u := fun u => by kernel_rfl
  have hi : (Tryz.prog.info? 29).map (·.size) = some ((k7.map B8).toArray).size := by kernel_rfl
  have hbt := Tryz.builtKey
  have hsz : ((List.replicate 32 (0 : UInt8)).map B8).toArray.size = ((k7.map B8).toArray).size := rfl
  have h1c : ((k7.map B8).toArray).all (·.oneCell') = true := all_oneCell_toArray (fun v hv => by obtain ⟨b, _, rfl⟩ := List.mem_map.1 hv; rfl)
  generalize (k7.map B8).toArray = C at *
  generalize ((List.replicate 32 (0 : UInt8)).map B8).toArray = Z at *
  go_enter Tryz.func6, Tryz.ntmps6
  go_upto_region 1 with (fail)
  refine wp_world (fun W => Blk W w.heap.size 29 Z ∧ Below w.heap.size w W) ?_ ?_
  · exact ⟨Blk.new w _ _, (Below.refl _ w).alloc (Nat.le_refl _) _⟩
  intro W hW
  have HW := Lib.hid hW
  have hb := hW.1
  clear hW
  go_wp2_with (first
    | (refine wpList_build_eq rfl 29 _ rfl (C := C) (l := [(0, .int .u8 7)]) (by simp [Act.eval, Act.put]) hbt ?_)
    | (refine wpList_store_row rfl 29 (.tmp 0) (.tmp 1) rfl w.heap.size C rfl rfl 29 Z hb hi hsz h1c ?_))
  have ho : Only (fun x => x = w.heap.size) W (W.setRow w.heap.size C) := only_setRowS (q := fun k => k = w.heap.size) _ _ _ rfl
  have hb9 : Blk (W.setRow w.heap.size C) w.heap.size 29 C := setRow_heap _ w.heap.size _ C 29 (0, 0) hb
  exact bodyPost_ret (v := .agg C) (results_cell_row (P := Tryz.prog) Tryz.results6 _ _ w.heap.size 29 C (0, 0) _ rfl hb9 Tryz.underlying29 rfl hi) rfl ⟨rfl, below_only HW.out.2 HW.out.2.size ho (fun k hk e => by omega)⟩
/-- What chain tells. -/
def ChnR (w : World) (e : Ending) (w' : World) : Prop := ∃ p c, e = .returned (.slice p 1 c) ∧ RwI w' (fun x => w.heap.size ≤ x ∧ x < w'.heap.size) (.slice p 1 c) [[1, 2, 3]] ∧ Below w.heap.size w w'
theorem chain_c (w : World) : Calls Tryz.prog 7 #[] w (ChnR w) := by
  go_enter Tryz.func7, Tryz.ntmps7
  go_wp2
  go_ret
  have m1 := Blk.new w 5 #[Value.int .u8 1, .int .u8 2, .int .u8 3]
  have x1 : Below w.heap.size w (w.alloc (.cells #[Value.int .u8 1, .int .u8 2, .int .u8 3] 5)) := (Below.refl _ w).alloc (Nat.le_refl _) _
  have m2 := Blk.new (w.alloc (.cells #[Value.int .u8 1, .int .u8 2, .int .u8 3] 5)) 38 #[Value.slice (some ⟨w.heap.size, 0, none⟩) 3 3]
  have x2 : Below (w.alloc (.cells #[Value.int .u8 1, .int .u8 2, .int .u8 3] 5)).heap.size (w.alloc (.cells #[Value.int .u8 1, .int .u8 2, .int .u8 3] 5)) ((w.alloc (.cells #[Value.int .u8 1, .int .u8 2, .int .u8 3] 5)).alloc (.cells #[Value.slice (some ⟨w.heap.size, 0, none⟩) 3 3] 38)) := (Below.refl _ _).alloc (Nat.le_refl _) _
  have m1 := m1.below x2
  rw [World.size_alloc] at m2
  generalize (w.alloc (.cells #[Value.int .u8 1, .int .u8 2, .int .u8 3] 5)).alloc (.cells #[Value.slice (some ⟨w.heap.size, 0, none⟩) 3 3] 38) = V at *
  have l1 := m1.lt
  have l2 := m2.lt
  refine ⟨some ⟨w.heap.size + 1, 0, none⟩, 1, rfl, ⟨⟨[Value.slice (some ⟨w.heap.size, 0, none⟩) 3 3], ⟨rfl, .inr ⟨w.heap.size + 1, 1, _, rfl, Nat.zero_le _, m2, Nat.le_refl _, by unfold maxLen; omega, rfl, rfl⟩⟩, ⟨rfl, fun i hi => ?_⟩⟩, fun b hb => ?_⟩, x1.trans (x2.mono x1.size)⟩
  · obtain rfl : i = 0 := by simp at hi; omega
    refine ⟨⟨w.heap.size, 0, none⟩, 3, rfl, fun k hk => ?_, Nat.le_refl _⟩
    refine ⟨⟨w.heap.size, 0, none⟩, rfl, ⟨⟨Nat.le_refl _, l1⟩, fun e => ?_⟩, ?_⟩
    · simp [Value.ownBlock] at e
    · rw [add_at, m1.c]
      have h3 : k = 0 ∨ k = 1 ∨ k = 2 := by simp at hk; omega
      rcases h3 with rfl | rfl | rfl <;> rfl
  · simp [Value.ownBlock] at hb
    subst hb
    exact ⟨⟨by omega, l2⟩, l2⟩
theorem dNew_200 (w : World) : Calls Tryz.prog 4 #[.int .i64 200] w (DnR w 200) := dNew_c 200 w (by decide) (by decide)
theorem accept_1 (P : Nat → Prop) (h mc mh j r g n k used nc cnt cnts : Nat) (L : List UInt8) (E : List (List UInt8)) (f : Int → Option Nat) (had : List Int) (sl : Value) (w : World) (hi : HI w P h mc mh j r g n k L E used f nc had cnt cnts sl)
    (h4 : 4 ≤ n) (hm : (1 : Int) ∉ had) (hf : f 1 = none) (hnc : nc < 4) (hu : used + 1 ≤ areaF n) (hE : E.length ≤ 1000) (hk : k ≤ 1000) (hhl : had.length ≤ 1000) :
    Calls Tryz.prog 9 #[rp h, .int .i64 1] w (AcR P w h mc mh j r g n k L E used f nc had cnt cnts sl 1) := accept_ok P h mc mh j r g n k used nc cnt cnts 1 L E f had sl w hi h4 (by decide) hm hf hnc hu hE hk hhl
theorem freeze_1 (P : Nat → Prop) (h mc mh j r g n k used nc b : Nat) (L : List UInt8) (E : List (List UInt8)) (f : Int → Option Nat) (had : List Int) (w : World) (hi : HI w P h mc mh j r g n k L E used f nc had 0 0 (.slice none 0 0))
    (h4 : 4 ≤ n) (hf : f 1 = some b) (hu : used + 6 ≤ areaF n) (hE : E.length ≤ 900) (hk : k ≤ 900) :
    Calls Tryz.prog 13 #[rp h, .int .i64 1] w (FrzR P h mc mh j r g n k b L E used 1 w) := freeze_c P h mc mh j r g n k used nc 1 b L E f had w hi h4 (by decide) hf hu hE hk
/-- The disk behind a freeze. -/
def L3 : List UInt8 := splice (splice (splice (fmF (List.replicate (64 * 200) 0)) ((2 + 0) * 64) (secsF 1 0 (4 :: be 1 2))) ((2 + 1) * 64) (secsF 1 1 (2 :: be 8 4))) ((2 + (1 + 1)) * 64) (secsF 1 2 (3 :: be 1 2 ++ frE 1))
theorem L3_ok : nwF L3 = (1, 0, true) ∧ Lays L3 200 0 0 (E3 1) := disk3 _ _ _ (by rw [List.length_cons, be_length]) (by rw [List.length_cons, be_length]) (by rw [List.length_append, List.length_cons, be_length, frE_len])
set_option maxHeartbeats 8000000 in
theorem stands_c (w : World) : Calls Tryz.prog 8 #[] w (BackR w (.bool true)) := by
  go_enter Tryz.func8, Tryz.ntmps8
  go_upto_region 2 with (go_at_call 4; apply Calls.mono; (· (with_reducible exact dNew_200 _)); rintro e w1 ⟨r, g, rfl, hD, hr, hg, b1⟩)
  go_upto_region 3 with (first
    | (go_at_call 5; apply Calls.mono; (· (with_reducible refine hbegin_c r g 200 0 (List.replicate (64 * 200) 0) (fun x => w2.heap.size ≤ x ∧ x < w3.heap.size) p3 c3 _ ?_ ?_ ?_ ?_ ?_ ?_); (· exact (hD.below b2).below b3); (· decide); (· exact nwF_z 200 (by decide)); (· decide); (· exact hC3); (· intro x hx; have h1 := hD.b.lt; have h2 := hD.s.lt; have h3 := b2.size; omega)); rintro e w4 ⟨h, mc, mh, j, rfl, hi4, s1, s2, s3, s4, o4⟩)
    | (go_at_call 7; apply Calls.mono; (· (with_reducible exact chain_c _)); rintro e w3 ⟨p3, c3, rfl, hC3, b3⟩)
    | (go_at_call 6; apply Calls.mono; (· (with_reducible exact key_c _)); rintro e w2 ⟨rfl, b2⟩))
  have hs1 := b1.size
  have x2 := b1.trans (b2.mono b1.size)
  have x3 := x2.trans (b3.mono x2.size)
  have x4 := below_only x3 x3.size o4 (fun k hk e => by omega)
  have H4 := Lib.hid (And.intro hi4 (And.intro x4 (And.intro hr (And.intro hg (And.intro (Nat.le_trans x3.size s1) (And.intro (Nat.le_trans x3.size s2) (And.intro (Nat.le_trans x3.size s3) (Nat.le_trans x3.size s4))))))))
  clear hi4 x4 x3 x2 hs1 b1 b2 b3 o4 s1 s2 s3 s4 hC3 hD hr hg
  go_upto_region 4 with (go_at_call 9; apply Calls.mono; (· (with_reducible refine accept_1 (fun _ => False) h mc mh j r g 200 (0 + 2) 0 0 0 0 (fmF (List.replicate (64 * 200) 0)) [] (fun _ => none) [] (.slice none 0 0) _ ?_ ?_ ?_ ?_ ?_ ?_ ?_ ?_ ?_); (· exact H4.out.1); (· decide); (· simp); (· rfl); (· decide); (· decide); (· decide); (· decide); (· decide)); rintro e w5 ⟨rfl, P5, b, hb5, hP5, o5, hi5⟩)
  have x5 := below_only H4.out.2.1 H4.out.2.1.size o5 (fun k hk e => by have := H4.out.2.2; rcases e with e | e; (· exact e.elim); (· omega))
  have H5 := Lib.hid (And.intro hi5 (And.intro x5 (And.intro hb5 hP5)))
  clear hi5 x5 o5 hb5 hP5
  go_upto_region 5 with (go_at_call 13; apply Calls.mono; (· (with_reducible refine freeze_1 P5 h mc mh j r g 200 (0 + 2 + 1) (0 + 1) (0 + 1) b (splice (fmF (List.replicate (64 * 200) 0)) ((2 + 0) * 64) (secsF 1 ([] : List (List UInt8)).length (4 :: be 1 2))) ([] ++ [4 :: be 1 2]) (updF (fun _ => none) ((1 : Nat) : Int) (some b)) [((1 : Nat) : Int)] _ ?_ ?_ ?_ ?_ ?_ ?_); (· exact H5.out.1); (· decide); (· exact if_pos rfl); (· decide); (· decide); (· decide)); rintro e w6 ⟨rfl, P6, hJ6, c73, o6⟩)
  have hDL : DiskI w6 r g 200 (0 + 2 + 1 + 6) L3 := hJ6.d
  have x6 := below_only H5.out.2.1 H5.out.2.1.size o6 (fun k hk e => by
    have h1 := H4.out.2.2
    have h2 := H5.out.2.2.1
    have h3 := H4.out.2.1.size
    rcases e with e | e
    · rcases H5.out.2.2.2 k e with e | e
      · exact e
      · omega
    · omega)
  have H6 := Lib.hid (And.intro hDL (And.intro x6 c73))
  clear hDL x6 c73 hJ6 o6
  go_upto_region 6 with (first
    | (go_at_call 16; apply Calls.mono; (· (with_reducible refine recover_c r g 200 (0 + 2 + 1 + 6) 1 c8 L3 (fun x => w7.heap.size ≤ x ∧ x < w8.heap.size) p8 _ ?_ ?_ ?_ ?_ ?_ ?_); (· exact (H6.out.1.below b7).below b8); (· decide); (· exact L3_ok.1); (· exact L3_ok.2); (· exact hC8); (· decide)); rintro e w9 ⟨h2, mc2, q9, c9, bb, rfl, y0, y1, y73, y68, yC, b9⟩)
    | (go_at_call 7; apply Calls.mono; (· (with_reducible exact chain_c _)); rintro e w8 ⟨p8, c8, rfl, hC8, b8⟩)
    | (go_at_call 6; apply Calls.mono; (· (with_reducible exact key_c _)); rintro e w7 ⟨rfl, b7⟩))
  have x7 := H6.out.2.1.trans (b7.mono H6.out.2.1.size)
  have x8 := x7.trans (b8.mono x7.size)
  have x9 := x8.trans (b9.mono x8.size)
  have z73 : w9.cell? ⟨h, 73, none⟩ = some (.bool false) := by
    have hl := World.block_lt_of_cell? w6 _ H6.out.2.2
    have h1 := (b7.cell hl).trans H6.out.2.2
    have h2 := (b8.cell (World.block_lt_of_cell? w7 _ h1)).trans h1
    exact (b9.cell (World.block_lt_of_cell? w8 _ h2)).trans h2
  have H9 := Lib.hid (And.intro yC x9)
  clear x7 x8 x9 yC b7 b8 b9 hC8
  go_wp2_with (first
    | (go_at_call 10; apply Calls.mono; (· (with_reducible refine conns_c h2 mc2 1 (updF (fun _ => none) ((1 : Nat) : Int) (some bb)) _ ?_ ?_ ?_ ?_ ?_); (· exact y73); (· exact y68); (· exact H9.out.1); (· decide); (· decide)); rintro e w10 ⟨g10, cap10, ss, rfl, hl10, hm10, ho10, b10⟩; have z73 := (b10.cell (World.block_lt_of_cell? _ _ z73)).trans z73)
    | (go_at_call 17; apply Calls.mono; (· (with_reducible refine on_c h _ ?_); (· exact z73)); rintro e w11 ⟨rfl, hw11⟩; rw [hw11]; clear hw11 w11))
  go_ret
  exact ⟨rfl, H9.out.2.trans (b10.mono H9.out.2.size)⟩
end Go.Proofs.YtolgaapiedbkfaaGreat
/-
  relaylaw21.HostLimits tells true of all numbers. No condition.
-/
namespace Go.Proofs.YtolgaapiedbkfaaGreat
open Go.RowKit Go.Kx Go.Maps
set_option linter.unusedVariables false
set_option linter.unusedSimpArgs false
set_option maxRecDepth 100000
theorem hopN (n : Int) (m : Nat) (hm : 0 < m) (hb : m ≤ 1000000) : ∃ P : Nat, wrap64 ((IntKind.u64.wrap n).tmod (m : Int)) = (P : Int) ∧ P < m := by
  have h0 : 0 ≤ IntKind.u64.wrap n := by rw [IntKind.wrap_u64]; omega
  rw [Int.tmod_eq_emod_of_nonneg h0]
  generalize IntKind.u64.wrap n = y at h0
  have h1 : 0 ≤ y % (m : Int) ∧ y % (m : Int) < (m : Int) := ⟨Int.emod_nonneg _ (by omega), Int.emod_lt_of_pos _ (by omega)⟩
  generalize y % (m : Int) = x at h1
  rw [IntWalk.wrap64_in x ⟨by omega, by omega⟩]
  exact ⟨x.toNat, by omega, by omega⟩
theorem dNew_300 (w : World) : Calls Tryz.prog 4 #[.int .i64 300] w (DnR w 300) := dNew_c 300 w (by decide) (by decide)
theorem accept_m1 (h : Nat) (w : World) (c73 : w.cell? ⟨h, 73, none⟩ = some (.bool false)) : Calls Tryz.prog 9 #[rp h, .int .i64 (-1)] w fun e w' => e = .returned (.int .i64 1) ∧ w' = w := accept_bad h (-1) w c73 (.inl rfl)
theorem accept_65536 (h : Nat) (w : World) (c73 : w.cell? ⟨h, 73, none⟩ = some (.bool false)) : Calls Tryz.prog 9 #[rp h, .int .i64 65536] w fun e w' => e = .returned (.int .i64 1) ∧ w' = w := accept_bad h 65536 w c73 (.inr rfl)
/-- So many connections live. -/
def LimI (w0 w : World) (h mc mh j r g B m : Nat) : Prop :=
  ∃ P k L E f had, HI w P h mc mh j r g 300 k L E m f m had 0 0 (.slice none 0 0) ∧ k ≤ 2 + m ∧ E.length = m ∧ had.length = m ∧ (∀ i : Nat, i < m → ((B + 7 * i : Nat) : Int) ∈ had ∧ (f ((B + 7 * i : Nat) : Int)).isSome = true) ∧ (∀ x ∈ had, ∃ i : Nat, i < m ∧ x = ((B + 7 * i : Nat) : Int)) ∧
    (∀ x, (f x).isSome = true → ∃ i : Nat, i < m ∧ x = ((B + 7 * i : Nat) : Int)) ∧ (∀ x, P x → w0.heap.size ≤ x) ∧ (∀ x b, f x = some b → w0.heap.size ≤ b) ∧ Below w0.heap.size w0 w ∧ w0.heap.size ≤ h ∧ w0.heap.size ≤ mc ∧ w0.heap.size ≤ mh ∧ w0.heap.size ≤ j ∧ w0.heap.size ≤ r ∧ w0.heap.size ≤ g
theorem a300 : areaF 300 = 149 := by decide
theorem lim_step (w0 w : World) (h mc mh j r g B m : Nat) (x : Int) (hI : LimI w0 w h mc mh j r g B m) (hm : m < 4) (hB : B < 60000) (hx : x = ((B + 7 * m : Nat) : Int)) :
    Calls Tryz.prog 9 #[rp h, .int .i64 x] w fun e w' => e = .returned (.int .i64 0) ∧ LimI w0 w' h mc mh j r g B (m + 1) := by
  subst hx
  obtain ⟨P, k, L, E, f, had, h1, h2, h3, h4, h5, h6, h7, h8, h0, h9, q1, q2, q3, q4, q5, q6⟩ := hI
  have hno : ((B + 7 * m : Nat) : Int) ∉ had := fun e => by obtain ⟨i, hi, e2⟩ := h6 _ e; omega
  have hfn : f ((B + 7 * m : Nat) : Int) = none := by
    cases hf : f ((B + 7 * m : Nat) : Int) with
    | none => rfl
    | some b => obtain ⟨i, hi, e2⟩ := h7 _ (by rw [hf]; rfl); omega
  refine (accept_ok P h mc mh j r g 300 k m m 0 0 (B + 7 * m) L E f had (.slice none 0 0) w h1 (by decide) (by omega) hno hfn hm (by rw [a300]; omega) (by omega) (by omega) (by omega)).mono ?_
  rintro e w' ⟨rfl, P', b, hb, hP, hO, hi⟩
  refine ⟨rfl, P', _, _, _, _, _, hi, by omega, by rw [List.length_append, h3]; rfl, by rw [List.length_cons, h4], fun i hi => ?_, fun x hx => ?_, fun x hx => ?_, fun x hx => ?_, fun x y hx => ?_, ?_, q1, q2, q3, q4, q5, q6⟩
  · by_cases e : i = m
    · subst e
      exact ⟨List.mem_cons_self .., by unfold updF; rw [if_pos rfl]; rfl⟩
    · have := h5 i (by omega)
      refine ⟨List.mem_cons_of_mem _ this.1, ?_⟩
      unfold updF
      rw [if_neg (by omega)]
      exact this.2
  · rcases List.mem_cons.1 hx with e | e
    · exact ⟨m, by omega, e⟩
    · obtain ⟨i, hi, e2⟩ := h6 x e
      exact ⟨i, by omega, e2⟩
  · unfold updF at hx
    by_cases e : x = ((B + 7 * m : Nat) : Int)
    · exact ⟨m, by omega, e⟩
    · rw [if_neg e] at hx
      obtain ⟨i, hi, e2⟩ := h7 x hx
      exact ⟨i, by omega, e2⟩
  · rcases hP x hx with e | e
    · exact h8 x e
    · have := h9.size; omega
  · unfold updF at hx
    by_cases e : x = ((B + 7 * m : Nat) : Int)
    · rw [if_pos e] at hx
      cases hx
      have := h9.size; omega
    · rw [if_neg e] at hx
      exact h0 x y hx
  · exact below_only h9 h9.size hO (fun k hk e => by rcases e with e | e; (· have := h8 k e; omega); (· omega))
theorem lim_full (w0 w : World) (h mc mh j r g B : Nat) (x : Int) (hI : LimI w0 w h mc mh j r g B 4) (hB : B < 60000) (hx : x = ((B + 1 : Nat) : Int)) :
    Calls Tryz.prog 9 #[rp h, .int .i64 x] w fun e w' => e = .returned (.int .i64 5) ∧ w' = w := by
  subst hx
  obtain ⟨P, k, L, E, f, had, h1, h2, h3, h4, h5, h6, h7, h8, h0, h9, q⟩ := hI
  obtain ⟨_, g68, g69, _, _, _, g73⟩ := h1.g
  exact accept_full h (B + 1) mh mc had f w g73 g69 g68 h1.d h1.c (by omega) (fun e => by obtain ⟨i, hi, e2⟩ := h6 _ e; omega)
theorem lim_known (w0 w : World) (h mc mh j r g B K : Nat) (x : Int) (hI : LimI w0 w h mc mh j r g B 4) (hB : B < 60000) (hK : K < 4) (hx : x = ((B + 7 * K : Nat) : Int)) :
    Calls Tryz.prog 9 #[rp h, .int .i64 x] w fun e w' => e = .returned (.int .i64 11) ∧ w' = w := by
  subst hx
  obtain ⟨P, k, L, E, f, had, h1, h2, h3, h4, h5, h6, h7, h8, h0, h9, q⟩ := hI
  obtain ⟨_, g68, g69, _, _, _, g73⟩ := h1.g
  exact accept_known h (B + 7 * K) mh had w g73 g69 h1.d (by omega) (h5 K hK).1
theorem lim_conns (w0 w : World) (h mc mh j r g B : Nat) (hI : LimI w0 w h mc mh j r g B 4) :
    Calls Tryz.prog 10 #[rp h] w fun e w' => (∃ q cap, e = .returned (.slice (some ⟨q, 0, none⟩) 4 cap)) ∧ LimI w0 w' h mc mh j r g B 4 := by
  obtain ⟨P, k, L, E, f, had, h1, h2, h3, h4, h5, h6, h7, h8, h0, h9, q⟩ := hI
  obtain ⟨_, g68, g69, _, _, _, g73⟩ := h1.g
  refine (conns_c h mc 4 f w g73 g68 h1.c (by decide) (by decide)).mono ?_
  rintro e w' ⟨q', cap, ss, rfl, _, _, _, hb⟩
  exact ⟨⟨q', cap, rfl⟩, P, k, L, E, f, had, h1.below hb, h2, h3, h4, h5, h6, h7, h8, h0, h9.trans (hb.mono h9.size), q⟩
/-- One of the four has ended. -/
def ClsI (w0 w : World) (h mc mh j r g B K : Nat) : Prop :=
  ∃ P k L E f had, HI w P h mc mh j r g 300 k L E 5 f 3 had 0 0 (.slice none 0 0) ∧ k ≤ 7 ∧ E.length = 5 ∧ had.length = 4 ∧ ((B + 7 * K : Nat) : Int) ∈ had ∧ ((B + 1 : Nat) : Int) ∉ had ∧ f ((B + 7 * K : Nat) : Int) = none ∧ f ((B + 1 : Nat) : Int) = none ∧
    (∀ x, P x → w0.heap.size ≤ x) ∧ Below w0.heap.size w0 w ∧ w0.heap.size ≤ h ∧ w0.heap.size ≤ mc ∧ w0.heap.size ≤ mh ∧ w0.heap.size ≤ j ∧ w0.heap.size ≤ r ∧ w0.heap.size ≤ g
theorem ClsI.below {w0 w w' : World} {h mc mh j r g B K : Nat} (hI : ClsI w0 w h mc mh j r g B K) (hb : Below w.heap.size w w') : ClsI w0 w' h mc mh j r g B K := by
  obtain ⟨P, k, L, E, f, had, h1, h2, h3, h4, h5, h6, h7, h8, h9, h10, q⟩ := hI
  exact ⟨P, k, L, E, f, had, h1.below hb, h2, h3, h4, h5, h6, h7, h8, h9, h10.trans (hb.mono h10.size), q⟩
theorem lim_close (w0 w : World) (h mc mh j r g B K : Nat) (x : Int) (hI : LimI w0 w h mc mh j r g B 4) (hB : B < 60000) (hK : K < 4) (hx : x = ((B + 7 * K : Nat) : Int)) :
    Calls Tryz.prog 11 #[rp h, .int .i64 x] w fun e w' => (∃ p cp, e = .returned (.tuple #[.agg (ouV (.slice p 7 cp)), .int .i64 0])) ∧ ClsI w0 w' h mc mh j r g B K := by
  subst hx
  obtain ⟨P, k, L, E, f, had, h1, h2, h3, h4, h5, h6, h7, h8, h0, h9, q1, q2, q3, q4, q5, q6⟩ := hI
  obtain ⟨b, hb⟩ := Option.isSome_iff_exists.1 (h5 K hK).2
  refine (hclose_c P h mc mh j r g 300 k 4 3 0 0 (B + 7 * K) b L E f had (.slice none 0 0) w h1 (by decide) (by omega) hb (by rw [a300]; decide) (by omega) (by omega)).mono ?_
  rintro e w' ⟨p, cp, rfl, P', hP, hO, hi⟩
  have hno : ((B + 1 : Nat) : Int) ∉ had := fun e => by obtain ⟨i, hi, e2⟩ := h6 _ e; omega
  have hfn : f ((B + 1 : Nat) : Int) = none := by
    cases hf : f ((B + 1 : Nat) : Int) with
    | none => rfl
    | some b => obtain ⟨i, hi, e2⟩ := h7 _ (by rw [hf]; rfl); omega
  refine ⟨⟨p, cp, rfl⟩, P', _, _, _, _, had, hi, by omega, by rw [List.length_append, h3]; rfl, h4, (h5 K hK).1, hno, if_pos rfl, ?_, fun x hx => ?_, ?_, q1, q2, q3, q4, q5, q6⟩
  · unfold updF
    rw [if_neg (by omega)]
    exact hfn
  · rcases hP x hx with e | e
    · exact h8 x e.1
    · have := h9.size; omega
  · exact below_only h9 h9.size hO (fun k hk e => by
      have hbb := h0 _ _ hb
      rcases e with e | e
      · have := h8 k e.1; omega
      · omega)
theorem cls_close (w0 w : World) (h mc mh j r g B K : Nat) (x : Int) (hI : ClsI w0 w h mc mh j r g B K) (hB : B < 60000) (hK : K < 4) (hx : x = ((B + 7 * K : Nat) : Int)) :
    Calls Tryz.prog 11 #[rp h, .int .i64 x] w fun e w' => e = .returned (.tuple #[.agg (ouV (.slice none 0 0)), .int .i64 13]) ∧ Below w.heap.size w w' := by
  subst hx
  obtain ⟨P, k, L, E, f, had, h1, h2, h3, h4, h5, h6, h7, h8, h9, h10, q⟩ := hI
  obtain ⟨_, g68, g69, _, _, _, g73⟩ := h1.g
  exact (hclose_none h (B + 7 * K) mc 3 f w g73 g68 h1.c (by omega) h7).mono fun e w' hh => ⟨hh.1, hh.2⟩
theorem cls_write (w0 w : World) (h mc mh j r g B K : Nat) (x : Int) (hI : ClsI w0 w h mc mh j r g B K) (hB : B < 60000) (hK : K < 4) (hx : x = ((B + 7 * K : Nat) : Int)) :
    Calls Tryz.prog 12 #[rp h, .int .i64 x, .slice none 0 0] w fun e w' => e = .returned (.tuple #[.agg (ouV (.slice none 0 0)), .int .i64 13]) ∧ Below w.heap.size w w' := by
  subst hx
  obtain ⟨P, k, L, E, f, had, h1, h2, h3, h4, h5, h6, h7, h8, h9, h10, q⟩ := hI
  obtain ⟨_, g68, g69, _, _, _, g73⟩ := h1.g
  exact (hwrite_none h (B + 7 * K) mc 3 f w g73 g68 h1.c (by omega) h7).mono fun e w' hh => ⟨hh.1, hh.2⟩
theorem cls_freeze (w0 w : World) (h mc mh j r g B K : Nat) (x : Int) (hI : ClsI w0 w h mc mh j r g B K) (hB : B < 60000) (hK : K < 4) (hx : x = ((B + 7 * K : Nat) : Int)) :
    Calls Tryz.prog 13 #[rp h, .int .i64 x] w fun e w' => e = .returned (.int .i64 13) ∧ w' = w := by
  subst hx
  obtain ⟨P, k, L, E, f, had, h1, h2, h3, h4, h5, h6, h7, h8, h9, h10, q⟩ := hI
  obtain ⟨_, g68, g69, _, _, _, g73⟩ := h1.g
  exact hfreeze_none h (B + 7 * K) mc 3 f w g73 g68 h1.c (by omega) h7
theorem cls_known (w0 w : World) (h mc mh j r g B K : Nat) (x : Int) (hI : ClsI w0 w h mc mh j r g B K) (hB : B < 60000) (hK : K < 4) (hx : x = ((B + 7 * K : Nat) : Int)) :
    Calls Tryz.prog 9 #[rp h, .int .i64 x] w fun e w' => e = .returned (.int .i64 11) ∧ w' = w := by
  subst hx
  obtain ⟨P, k, L, E, f, had, h1, h2, h3, h4, h5, h6, h7, h8, h9, h10, q⟩ := hI
  obtain ⟨_, g68, g69, _, _, _, g73⟩ := h1.g
  exact accept_known h (B + 7 * K) mh had w g73 g69 h1.d (by omega) h5
theorem out_below (v : World) (t : TypeId) (C D : Array Value) : Below v.heap.size v ((v.alloc (.cells C t)).setRow v.heap.size D) := by
  have x1 : Below v.heap.size v (v.alloc (.cells C t)) := (Below.refl _ v).alloc (Nat.le_refl _) _
  exact below_only x1 x1.size (only_setRowS (q := fun k => k = v.heap.size) _ _ _ rfl) (fun k hk e => by omega)
/-- Four live again. -/
def AgnI (w0 w : World) (h mc : Nat) : Prop := ∃ f, w.cell? ⟨h, 73, none⟩ = some (.bool false) ∧ w.cell? ⟨h, 68, none⟩ = some (.map (some mc)) ∧ CnS w mc f 4 ∧ Below w0.heap.size w0 w
theorem cls_accept (w0 w : World) (h mc mh j r g B K : Nat) (x : Int) (hI : ClsI w0 w h mc mh j r g B K) (hB : B < 60000) (hx : x = ((B + 1 : Nat) : Int)) :
    Calls Tryz.prog 9 #[rp h, .int .i64 x] w fun e w' => e = .returned (.int .i64 0) ∧ AgnI w0 w' h mc := by
  subst hx
  obtain ⟨P, k, L, E, f, had, h1, h2, h3, h4, h5, h6, h7, h8, h9, h10, q1, q2, q3, q4, q5, q6⟩ := hI
  refine (accept_ok P h mc mh j r g 300 k 5 3 0 0 (B + 1) L E f had (.slice none 0 0) w h1 (by decide) (by omega) h6 h8 (by decide) (by rw [a300]; decide) (by omega) (by omega) (by omega)).mono ?_
  rintro e w' ⟨rfl, P', b, hb, hP, hO, hi⟩
  obtain ⟨_, g68, g69, _, _, _, g73⟩ := hi.g
  exact ⟨rfl, _, g73, g68, hi.c, below_only h10 h10.size hO (fun k hk e => by rcases e with e | e; (· have := h9 k e; omega); (· omega))⟩
theorem agn_conns (w0 w : World) (h mc : Nat) (hI : AgnI w0 w h mc) :
    Calls Tryz.prog 10 #[rp h] w fun e w' => (∃ q cap, e = .returned (.slice (some ⟨q, 0, none⟩) 4 cap)) ∧ Below w0.heap.size w0 w' := by
  obtain ⟨f, h1, h2, h3, h4⟩ := hI
  refine (conns_c h mc 4 f w h1 h2 h3 (by decide) (by decide)).mono ?_
  rintro e w' ⟨q', cap, ss, rfl, _, _, _, hb⟩
  exact ⟨⟨q', cap, rfl⟩, h4.trans (hb.mono h4.size)⟩
set_option maxHeartbeats 8000000 in
theorem limits_c (n which : Int) (w : World) : Calls Tryz.prog 3 #[.int .i64 n, .int .i64 which] w (BackR w (.bool true)) := by
  obtain ⟨B, hB, hBl⟩ := hopN n 60000 (by decide) (by decide)
  obtain ⟨K, hK, hKl⟩ := hopN which 4 (by decide) (by decide)
  have hB' : wrap64 ((IntKind.u64.wrap n).tmod 60000) = (B : Int) := hB
  have hK' : wrap64 ((IntKind.u64.wrap which).tmod 4) = (K : Int) := hK
  clear hB hK
  go_enter Tryz.func3, Tryz.ntmps3
  go_upto_region 2 with (go_at_call 4; apply Calls.mono; (· (with_reducible exact dNew_300 _)); rintro e w1 ⟨r, g, rfl, hD, hr, hg, b1⟩)
  go_upto_region 3 with (first
    | (go_at_call 5; apply Calls.mono; (· (with_reducible refine hbegin_c r g 300 0 (List.replicate (64 * 300) 0) (fun x => w2.heap.size ≤ x ∧ x < w3.heap.size) p3 c3 _ ?_ ?_ ?_ ?_ ?_ ?_); (· exact (hD.below b2).below b3); (· decide); (· exact nwF_z 300 (by decide)); (· decide); (· exact hC3); (· intro x hx; have h1 := hD.b.lt; have h2 := hD.s.lt; have h3 := b2.size; omega)); rintro e w4 ⟨h, mc, mh, j, rfl, hi4, s1, s2, s3, s4, o4⟩)
    | (go_at_call 7; apply Calls.mono; (· (with_reducible exact chain_c _)); rintro e w3 ⟨p3, c3, rfl, hC3, b3⟩)
    | (go_at_call 6; apply Calls.mono; (· (with_reducible exact key_c _)); rintro e w2 ⟨rfl, b2⟩))
  have hs1 := b1.size
  have x2 := b1.trans (b2.mono b1.size)
  have x3 := x2.trans (b3.mono x2.size)
  have x4 := below_only x3 x3.size o4 (fun k hk e => by omega)
  have H4 := Lib.hid (And.intro hi4 (And.intro x4 (And.intro hr (And.intro hg (And.intro (Nat.le_trans x3.size s1) (And.intro (Nat.le_trans x3.size s2) (And.intro (Nat.le_trans x3.size s3) (Nat.le_trans x3.size s4))))))))
  clear hi4 x4 x3 x2 hs1 b1 b2 b3 o4 s1 s2 s3 s4 hC3 hD hr hg
  go_upto_region 5 with (first
    | (go_at_call 8; apply Calls.mono; (· (with_reducible exact stands_c _)); rintro e w5 ⟨rfl, b5⟩; have hi5 := H4.out.1.below b5; have z73 := hi5.g.2.2.2.2.2.2)
    | (go_at_call 9; apply Calls.mono; (· (with_reducible refine accept_m1 h _ ?_); (· exact z73)); rintro e w6 ⟨rfl, hw6⟩; rw [hw6]; clear hw6 w6)
    | (go_at_call 9; apply Calls.mono; (· (with_reducible refine accept_65536 h _ ?_); (· exact z73)); rintro e w6 ⟨rfl, hw6⟩; rw [hw6]; clear hw6 w6))
  have h00 : ∀ (x : Int) (b : Nat), (fun _ : Int => (none : Option Nat)) x = some b → w.heap.size ≤ b := fun x b hx => by cases hx
  have hL0 : LimI w w5 h mc mh j r g B 0 := ⟨fun _ => False, 0 + 2, fmF (List.replicate (64 * 300) 0), [], fun _ => none, [], hi5, by decide, rfl, rfl, fun i hi => absurd hi (by omega), fun x hx => absurd hx (by simp), fun x hx => absurd hx (by simp), fun x hx => hx.elim, h00, H4.out.2.1.trans (b5.mono H4.out.2.1.size), H4.out.2.2.2.2.1, H4.out.2.2.2.2.2.1, H4.out.2.2.2.2.2.2.1, H4.out.2.2.2.2.2.2.2, H4.out.2.2.1, H4.out.2.2.2.1⟩
  have HL := Lib.hid (And.intro hL0 (And.intro hBl hKl))
  have w0 : wrap64 (B : Int) = (B : Int) := IntWalk.wrap64_in _ ⟨by omega, by omega⟩
  have w7 : wrap64 ((B : Int) + 7) = (B : Int) + 7 := IntWalk.wrap64_in _ ⟨by omega, by omega⟩
  have w14 : wrap64 ((B : Int) + 14) = (B : Int) + 14 := IntWalk.wrap64_in _ ⟨by omega, by omega⟩
  have w21 : wrap64 ((B : Int) + 21) = (B : Int) + 21 := IntWalk.wrap64_in _ ⟨by omega, by omega⟩
  have wk : wrap64 (7 * (K : Int)) = 7 * (K : Int) := IntWalk.wrap64_in _ ⟨by omega, by omega⟩
  have wbk : wrap64 ((B : Int) + 7 * (K : Int)) = (B : Int) + 7 * (K : Int) := IntWalk.wrap64_in _ ⟨by omega, by omega⟩
  have w1' : wrap64 ((B : Int) + 1) = (B : Int) + 1 := IntWalk.wrap64_in _ ⟨by omega, by omega⟩
  clear hL0 hi5 b5 hBl hKl z73
  go_upto_region 6 with (fail)
  rw [hB']
  go_wp2
  refine wp_loop_rounds 5 ?_
  rw [rounds_succ]
  go_wp2_with (go_at_call 9; apply Calls.mono; (· (with_reducible refine lim_step w _ h mc mh j r g B 0 (B : Int) ?_ ?_ ?_ ?_); (· exact HL.out.1); (· decide); (· exact HL.out.2.1); (· omega)); rintro e v1 ⟨rfl, hL1⟩; have HL1 := Lib.hid hL1; clear hL1)
  rw [rounds_succ]
  go_wp2_with (go_at_call 9; apply Calls.mono; (· (with_reducible refine lim_step w _ h mc mh j r g B 1 ((B : Int) + 7) ?_ ?_ ?_ ?_); (· exact HL1.out); (· decide); (· exact HL.out.2.1); (· omega)); rintro e v2 ⟨rfl, hL2⟩; have HL2 := Lib.hid hL2; clear hL2)
  rw [rounds_succ]
  go_wp2_with (go_at_call 9; apply Calls.mono; (· (with_reducible refine lim_step w _ h mc mh j r g B 2 ((B : Int) + 14) ?_ ?_ ?_ ?_); (· exact HL2.out); (· decide); (· exact HL.out.2.1); (· omega)); rintro e v3 ⟨rfl, hL3⟩; have HL3 := Lib.hid hL3; clear hL3)
  rw [rounds_succ]
  go_wp2_with (go_at_call 9; apply Calls.mono; (· (with_reducible refine lim_step w _ h mc mh j r g B 3 ((B : Int) + 21) ?_ ?_ ?_ ?_); (· exact HL3.out); (· decide); (· exact HL.out.2.1); (· omega)); rintro e v4 ⟨rfl, hL4⟩; have HL4 := Lib.hid hL4; clear hL4)
  rw [rounds_succ]
  go_upto_region 12 with (fail)
  rw [wbk]
  go_upto_region 14 with (first
    | (go_at_call 9; apply Calls.mono; (· (with_reducible refine lim_full w _ h mc mh j r g B ((B : Int) + 1) ?_ ?_ ?_); (· exact HL4.out); (· exact HL.out.2.1); (· omega)); rintro e v5 ⟨rfl, hv5⟩; rw [hv5]; clear hv5 v5)
    | (go_at_call 9; apply Calls.mono; (· (with_reducible refine lim_known w _ h mc mh j r g B K ((B : Int) + 7 * (K : Int)) ?_ ?_ ?_ ?_); (· exact HL4.out); (· exact HL.out.2.1); (· exact HL.out.2.2); (· omega)); rintro e v5 ⟨rfl, hv5⟩; rw [hv5]; clear hv5 v5)
    | (go_at_call 10; apply Calls.mono; (· (with_reducible refine lim_conns w _ h mc mh j r g B ?_); (· exact HL4.out)); rintro e v6 ⟨⟨q6, cap6, rfl⟩, hL6⟩; have HL6 := Lib.hid hL6; clear hL6))
  go_upto_region 15 with (first
    | (go_at_call 11; apply Calls.mono; (· (with_reducible refine lim_close w _ h mc mh j r g B K ((B : Int) + 7 * (K : Int)) ?_ ?_ ?_ ?_); (· exact HL6.out); (· exact HL.out.2.1); (· exact HL.out.2.2); (· omega)); rintro e v7 ⟨⟨p7, cp7, rfl⟩, hC7⟩; have hb7 := Blk.new v7 40 #[.slice none 0 0, .slice none 0 0])
    | (refine wpList_store_row rfl 40 (.tmp 12) (.tmp 92) rfl v7.heap.size (ouV (.slice p7 7 cp7)) rfl rfl 40 #[.slice none 0 0, .slice none 0 0] hb7 Tryz.infoOu rfl (ouV_one _ rfl) ?_))
  refine wp_world (fun V => Blk V v7.heap.size 40 (ouV (.slice p7 7 cp7)) ∧ ClsI w V h mc mh j r g B K) ?_ ?_
  · exact ⟨setRow_heap _ v7.heap.size _ (ouV (.slice p7 7 cp7)) 40 (0, 0) hb7, hC7.below (out_below v7 _ _ _)⟩
  intro V hV
  have HV := Lib.hid hV
  clear hV hC7 hb7
  generalize v7.heap.size = O1 at *
  go_upto_region 16 with (first
    | (go_at_call 11; apply Calls.mono; (· (with_reducible refine cls_close w _ h mc mh j r g B K ((B : Int) + 7 * (K : Int)) ?_ ?_ ?_ ?_); (· exact HV.out.2); (· exact HL.out.2.1); (· exact HL.out.2.2); (· omega)); rintro e v8 ⟨rfl, b8⟩; have hb8 := Blk.new v8 40 #[.slice none 0 0, .slice none 0 0])
    | (refine wpList_store_row rfl 40 (.tmp 14) (.tmp 98) rfl v8.heap.size (ouV (.slice none 0 0)) rfl rfl 40 #[.slice none 0 0, .slice none 0 0] hb8 Tryz.infoOu rfl (ouV_one _ rfl) ?_))
  refine wp_world (fun U => Blk U O1 40 (ouV (.slice p7 7 cp7)) ∧ ClsI w U h mc mh j r g B K) ?_ ?_
  · have x := b8.trans ((out_below v8 40 #[.slice none 0 0, .slice none 0 0] (ouV (.slice none 0 0))).mono b8.size)
    exact ⟨HV.out.1.below x, HV.out.2.below x⟩
  intro U hU
  have HU := Lib.hid hU
  clear hU hb8 b8
  go_upto_region 17 with (first
    | (go_at_call 12; apply Calls.mono; (· (with_reducible refine cls_write w _ h mc mh j r g B K ((B : Int) + 7 * (K : Int)) ?_ ?_ ?_ ?_); (· exact HU.out.2); (· exact HL.out.2.1); (· exact HL.out.2.2); (· omega)); rintro e v9 ⟨rfl, b9⟩; have hb9 := Blk.new v9 40 #[.slice none 0 0, .slice none 0 0])
    | (refine wpList_store_row rfl 40 (.tmp 16) (.tmp 104) rfl v9.heap.size (ouV (.slice none 0 0)) rfl rfl 40 #[.slice none 0 0, .slice none 0 0] hb9 Tryz.infoOu rfl (ouV_one _ rfl) ?_))
  refine wp_world (fun T => Blk T O1 40 (ouV (.slice p7 7 cp7)) ∧ ClsI w T h mc mh j r g B K) ?_ ?_
  · have x := b9.trans ((out_below v9 40 #[.slice none 0 0, .slice none 0 0] (ouV (.slice none 0 0))).mono b9.size)
    exact ⟨HU.out.1.below x, HU.out.2.below x⟩
  intro T hT
  have HT := Lib.hid hT
  have c0 : T.cell? ⟨O1, 0, none⟩ = some (.slice p7 7 cp7) := hT.1.c 0
  clear hT hb9 b9
  go_wp2_with (first
    | (go_at_call 13; apply Calls.mono; (· (with_reducible refine cls_freeze w _ h mc mh j r g B K ((B : Int) + 7 * (K : Int)) ?_ ?_ ?_ ?_); (· exact HT.out.2); (· exact HL.out.2.1); (· exact HL.out.2.2); (· omega)); rintro e v5 ⟨rfl, hv5⟩; rw [hv5]; clear hv5 v5)
    | (go_at_call 9; apply Calls.mono; (· (with_reducible refine cls_known w _ h mc mh j r g B K ((B : Int) + 7 * (K : Int)) ?_ ?_ ?_ ?_); (· exact HT.out.2); (· exact HL.out.2.1); (· exact HL.out.2.2); (· omega)); rintro e v5 ⟨rfl, hv5⟩; rw [hv5]; clear hv5 v5)
    | (go_at_call 9; apply Calls.mono; (· (with_reducible refine cls_accept w _ h mc mh j r g B K ((B : Int) + 1) ?_ ?_ ?_); (· exact HT.out.2); (· exact HL.out.2.1); (· omega)); rintro e v6 ⟨rfl, hA6⟩)
    | (go_at_call 10; apply Calls.mono; (· (with_reducible refine agn_conns w _ h mc ?_); (· exact hA6)); rintro e v8 ⟨⟨q8, cap8, rfl⟩, b8⟩))
  go_ret
  exact ⟨rfl, b8⟩
end Go.Proofs.YtolgaapiedbkfaaGreat
