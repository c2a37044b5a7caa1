/-
  A host and all it owns; the contracts of host's Begin, write and may. Conditions: those of each theorem.
-/
import Derived.Test.YtolgaapiedbkfaaGreatZHstD
namespace Go.Proofs.YtolgaapiedbkfaaGreat
open Go.RowKit Go.Kx Go.Maps
set_option linter.unusedVariables false
set_option linter.unusedSimpArgs false
set_option maxRecDepth 100000
/-- A connection's cells: the State of the start. -/
def coV : Array Value := (nC.toList ++ [Value.slice none 0 0, Value.int .i64 0, Value.slice none 0 0]).toArray
/-- A process: its block, its maps, its journal, its connections; P says which blocks the journal's rows lie in. -/
structure HI (w : World) (P : Nat → Prop) (h mc mh j r g n k : Nat) (L : List UInt8) (E : List (List UInt8)) (used : Nat) (f : Int → Option Nat) (nc : Nat) (had : List Int) (cnt cnts : Nat) (sl : Value) : Prop where
  b : ∃ ch, Blk w h 64 (hoV j ch tkF mc mh cnt cnts sl false)
  c : CnS w mc f nc
  d : HadAt w mh had
  J : JI w P j r g n k L E used
  co : ∀ x b, f x = some b → Blk w b 74 coV ∧ ¬ P b ∧ b ≠ h ∧ b ≠ mc ∧ b ≠ mh ∧ b ≠ j ∧ b ≠ r ∧ b ≠ g
  ne : h ≠ mc ∧ h ≠ mh ∧ mc ≠ mh ∧ h ≠ j ∧ h ≠ r ∧ h ≠ g ∧ mc ≠ j ∧ mc ≠ r ∧ mc ≠ g ∧ mh ≠ j ∧ mh ≠ r ∧ mh ≠ g
  np : ¬ P h ∧ ¬ P mc ∧ ¬ P mh
  ij : ∀ x y b, f x = some b → f y = some b → x = y
/-- What Begin tells. -/
def BegR (w : World) (r g n k : Nat) (L : List UInt8) (e : Ending) (w' : World) : Prop := ∃ h mc mh j, e = .returned (.tuple #[rp h, .int .i64 0]) ∧ HI w' (fun _ => False) h mc mh j r g n (k + 2) (fmF L) [] 0 (fun _ => none) 0 [] 0 0 (.slice none 0 0) ∧ w.heap.size ≤ h ∧ w.heap.size ≤ mc ∧ w.heap.size ≤ mh ∧ w.heap.size ≤ j ∧ Only (fun x => x = r ∨ x = g) w w'
set_option maxHeartbeats 4000000 in
theorem hbegin_c (r g n k : Nat) (L : List UInt8) (T : Nat → Prop) (p : Option Addr) (c : Nat) (w : World) (hD : DiskI w r g n k L) (h4 : 4 ≤ n) (hN : nwF L = (0, 0, false)) (hk : k ≤ 1000) (hch : RwI w T (.slice p 1 c) [[1, 2, 3]]) (hT : ∀ x, T x → x ≠ r ∧ x ≠ g) :
    Calls Tryz.prog 5 #[rp r, .agg (k7.map B8).toArray, .slice p 1 c] w (BegR w r g n k L) := by
  have hkz : ((k7.map B8).toArray).size = 32 := rfl
  have H := Lib.hid (And.intro hD (And.intro h4 (And.intro hN (And.intro hk (And.intro hch hT)))))
  clear hD hN hk hch hT
  go_enter Tryz.func5, Tryz.ntmps5
  go_upto_region 1 with (fail)
  refine wp_world (fun W => ArrB W w.heap.size 29 k7 ∧ Below w.heap.size w W) ?_ ?_
  · exact ⟨ArrB.new w _ k7, (Below.refl _ w).alloc (Nat.le_refl _) _⟩
  intro W hW
  have HW := Lib.hid hW
  clear hW
  go_upto_region 4 with (go_at_call 14; apply Calls.mono; (· (with_reducible refine format_c r g n k L _ ?_ ?_ ?_ ?_); (· exact H.out.1.below HW.out.2); (· exact h4); (· exact H.out.2.2.1); (· exact H.out.2.2.2.1)); rintro e w2 ⟨j, rfl, hJ, hj, hO⟩)
  have hdl := H.out.1
  have hr := hdl.b.lt
  have hg := hdl.s.lt
  have hsW := HW.out.2.size
  have hKl := HW.out.1.lt
  have hK2 := HW.out.1.only hO (by omega)
  have hC2 := (H.out.2.2.2.2.1.keep (Only.of_below HW.out.2 : Only (fun _ => False) w W) (fun _ _ h => h)).keep hO (fun x hx e => by have := H.out.2.2.2.2.2 x hx; omega)
  have H2 := Lib.hid (And.intro hJ (And.intro hj (And.intro hO (And.intro hK2 hC2))))
  clear hJ hj hO hK2 hC2
  go_wp2_with (first
    | (refine ld_arrB rfl 29 (.tmp 4) rfl w.heap.size rfl _ k7 H2.out.2.2.2.1 _ _ Tryz.underlying29 (by rw [k7_len]; exact Tryz.infoB32) ?_)
    | (go_at_call 15; apply Calls.mono; (· (with_reducible refine start_c j T p 1 c _ ?_); (· exact H2.out.2.2.2.2)); rintro e w3 ⟨h, mc, mh, ch, rfl, s1, s2, s3, s4, s5, s6, s7, s8, s9, s10⟩))
  go_ret2
  have hjl : j < w2.heap.size := by obtain ⟨⟨_, _, hb, _⟩, _⟩ := H2.out.1; exact hb.lt
  have hw2 := H2.out.2.2.1.size
  have hjj := H2.out.2.1
  refine ⟨h, mc, mh, j, rfl, ⟨⟨ch, s1⟩, s2, s3, H2.out.1.below s10, fun x b hx => (by cases hx), ?_, ⟨fun h => h, fun h => h, fun h => h⟩, fun x y b hx => (by cases hx)⟩, by omega, by omega, by omega, by omega, ?_⟩
  · refine ⟨?_, ?_, ?_, ?_, ?_, ?_, ?_, ?_, ?_, ?_, ?_, ?_⟩ <;> omega
  · exact ((Only.of_below HW.out.2).then H2.out.2.2.1).then (Only.of_below s10)
/-- The journal has one more entry. -/
theorem HI.put {w w' : World} {P : Nat → Prop} {h mc mh j r g n k used nc cnt cnts : Nat} {L : List UInt8} {E : List (List UInt8)} {f : Int → Option Nat} {had : List Int} {sl : Value} {b : List UInt8}
    (hi : HI w P h mc mh j r g n k L E used f nc had cnt cnts sl) (hJ : JI w' (fun x => P x ∨ w.heap.size ≤ x) j r g n (k + needF b.length) (splice L ((2 + used) * 64) (secsF 1 E.length b)) (E ++ [b]) (used + needF b.length)) (hO : Only (fun x => P x ∨ x = j ∨ x = r ∨ x = g) w w') :
    HI w' (fun x => P x ∨ w.heap.size ≤ x) h mc mh j r g n (k + needF b.length) (splice L ((2 + used) * 64) (secsF 1 E.length b)) (E ++ [b]) (used + needF b.length) f nc had cnt cnts sl := by
  obtain ⟨⟨ch, h1⟩, h2, h3, h4, h5, h6, h7, h8⟩ := hi
  have l1 := h1.lt
  have l2 := h2.lt
  have l3 := h3.lt
  have q1 : ¬ (P h ∨ h = j ∨ h = r ∨ h = g) := by intro e; rcases e with e | e; (· exact h7.1 e); (· omega)
  have q2 : ¬ (P mc ∨ mc = j ∨ mc = r ∨ mc = g) := by intro e; rcases e with e | e; (· exact h7.2.1 e); (· omega)
  have q3 : ¬ (P mh ∨ mh = j ∨ mh = r ∨ mh = g) := by intro e; rcases e with e | e; (· exact h7.2.2 e); (· omega)
  refine ⟨⟨ch, h1.only hO q1⟩, h2.only hO q2, h3.only hO q3, hJ, fun x b hx => ?_, h6, ⟨?_, ?_, ?_⟩, h8⟩
  · obtain ⟨c1, c2, c3⟩ := h5 x b hx
    have l4 := c1.lt
    refine ⟨c1.only hO (by intro e; rcases e with e | e; (· exact c2 e); (· omega)), ?_, c3⟩
    intro e; rcases e with e | e; (· exact c2 e); (· omega)
  · intro e; rcases e with e | e; (· exact h7.1 e); (· omega)
  · intro e; rcases e with e | e; (· exact h7.2.1 e); (· omega)
  · intro e; rcases e with e | e; (· exact h7.2.2 e); (· omega)
/-- What write tells. -/
def WrR (w : World) (P : Nat → Prop) (h mc mh j r g n k : Nat) (L : List UInt8) (E : List (List UInt8)) (used : Nat) (f : Int → Option Nat) (nc : Nat) (had : List Int) (cnt cnts : Nat) (sl : Value) (b : List UInt8) (e : Ending) (w' : World) : Prop :=
  e = .returned (.int .i64 0) ∧ HI w' (fun x => P x ∨ w.heap.size ≤ x) h mc mh j r g n (k + needF b.length) (splice L ((2 + used) * 64) (secsF 1 E.length b)) (E ++ [b]) (used + needF b.length) f nc had cnt cnts sl ∧ Only (fun x => P x ∨ x = j ∨ x = r ∨ x = g) w w'
set_option maxHeartbeats 4000000 in
theorem write_c (P : Nat → Prop) (h mc mh j r g n k used nc cnt cnts M c : Nat) (L : List UInt8) (E : List (List UInt8)) (f : Int → Option Nat) (had : List Int) (sl : Value) (T : Nat → Prop) (q : Addr) (b : List UInt8) (w : World) (hi : HI w P h mc mh j r g n k L E used f nc had cnt cnts sl)
    (h4 : 4 ≤ n) (hb : Rd w T (some q) b) (hT : ∀ x, T x → x ≠ j ∧ x ≠ r ∧ x ≠ g) (hc : M ≤ c) (hM : b.length = M) (h1 : 1 ≤ M) (h2 : M ≤ 4096) (h46 : (18 + M) % 64 ≠ 0) (hu : used + needF M ≤ areaF n) (hE : E.length ≤ 1000) (hk : k ≤ 1000) :
    Calls Tryz.prog 18 #[rp h, .slice (some q) M c] w (WrR w P h mc mh j r g n k L E used f nc had cnt cnts sl b) := by
  obtain ⟨ch, hbk⟩ := hi.b
  have c0 : w.cell? ⟨h, 0, none⟩ = some (rp j) := (hbk.c 0).trans (hoV_get j ch tkF tkF_len mc mh cnt cnts sl false).1
  have H := Lib.hid (And.intro hi (And.intro hb (And.intro hT (And.intro hM (And.intro hE hk)))))
  clear hi hb hT hM hE hk hbk
  go_enter Tryz.func18, Tryz.ntmps18
  go_wp2_with (go_at_call 43; apply Calls.mono; (· (with_reducible refine append_c P j r g n k used M (needF M) c L E T q b _ ?_ ?_ ?_ ?_ ?_ ?_ ?_ ?_ ?_ ?_ ?_ ?_ ?_); (· exact H.out.1.J); (· exact h4); (· exact H.out.2.1); (· exact H.out.2.2.1); (· exact hc); (· exact H.out.2.2.2.1); (· rfl); (· exact h1); (· exact h2); (· exact h46); (· exact hu); (· exact H.out.2.2.2.2.1); (· exact H.out.2.2.2.2.2)); rintro e w2 ⟨rfl, hJ2, hO2⟩)
  go_ret
  exact ⟨rfl, H.out.1.put hJ2 hO2, hO2⟩
theorem hmay_yes (h c bc : Nat) (mc : Nat) (f : Int → Option Nat) (nc : Nat) (w : World) (c73 : w.cell? ⟨h, 73, none⟩ = some (.bool false)) (c68 : w.cell? ⟨h, 68, none⟩ = some (.map (some mc))) (hm : CnS w mc f nc) (hc : c ≤ 100000) (hf : f (c : Int) = some bc) :
    Calls Tryz.prog 27 #[rp h, .int .i64 (c : Int)] w fun e w' => e = .returned (.tuple #[rp bc, .int .i64 0]) ∧ w' = w := by
  have hl := run_lookup_cn hm (c : Int) (WalkArith.wf_i64 (by omega))
  rw [hf] at hl
  have hl2 : (Instr.lookup 60 (.map (some mc)) (.int .i64 (c : Int)) false).run Tryz.prog w = .ok (rp bc) w := hl
  clear hl hm hf
  go_enter Tryz.func27, Tryz.ntmps27
  go_wp2
  go_ret2
  exact ⟨rfl, rfl⟩
theorem hmay_no (h c : Nat) (mc : Nat) (f : Int → Option Nat) (nc : Nat) (w : World) (c73 : w.cell? ⟨h, 73, none⟩ = some (.bool false)) (c68 : w.cell? ⟨h, 68, none⟩ = some (.map (some mc))) (hm : CnS w mc f nc) (hc : c ≤ 100000) (hf : f (c : Int) = none) :
    Calls Tryz.prog 27 #[rp h, .int .i64 (c : Int)] w fun e w' => e = .returned (.tuple #[.pointer none, .int .i64 13]) ∧ w' = w := by
  have hl := run_lookup_cn hm (c : Int) (WalkArith.wf_i64 (by omega))
  rw [hf] at hl
  have hl2 : (Instr.lookup 60 (.map (some mc)) (.int .i64 (c : Int)) false).run Tryz.prog w = .ok (.pointer none) w := hl
  clear hl hm hf
  go_enter Tryz.func27, Tryz.ntmps27
  go_wp2
  go_ret2
  exact ⟨rfl, rfl⟩
end Go.Proofs.YtolgaapiedbkfaaGreat
