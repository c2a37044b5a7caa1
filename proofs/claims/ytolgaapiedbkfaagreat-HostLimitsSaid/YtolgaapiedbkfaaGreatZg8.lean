/-
  The contract of journal's Format. Condition: a disk with power on which no slot is right.
-/
import Derived.Test.YtolgaapiedbkfaaGreatZg7
import Derived.Test.YtolgaapiedbkfaaGreatZg2
import Derived.Test.YtolgaapiedbkfaaGreatZVauD
import Derived.Test.YtolgaapiedbkfaaGreatZg3
import Derived.Test.YtolgaapiedbkfaaGreatZg4
namespace Go.Proofs.YtolgaapiedbkfaaGreat
open Go.RowKit Go.Kx
set_option linter.unusedVariables false
set_option linter.unusedSimpArgs false
set_option maxRecDepth 100000
/-- A journal's cells: generation 1, area 0. -/
def jrV (r : Nat) (al : Value) (used : Nat) : Array Value := #[rp r, .int .u64 1, .int .i64 0, al, .int .i64 (used : Int), .bool false]
/-- Slices of bytes as cells, one each, none of them empty. -/
def BdE (w : World) (S : Nat → Prop) (xs : List Value) (E : List (List UInt8)) : Prop := xs.length = E.length ∧ ∀ i (h : i < E.length), ∃ q c, xs[i]? = some (.slice (some q) (E[i]).length c) ∧ Rd w S (some q) E[i] ∧ (E[i]).length ≤ c
theorem BdE.nil (w : World) (S : Nat → Prop) : BdE w S [] [] := ⟨rfl, fun i h => absurd h (by simp)⟩
theorem BdE.keep {w w' : World} {S T : Nat → Prop} {xs : List Value} {E : List (List UInt8)} {q : Nat → Prop} (h : BdE w S xs E) (ho : Only q w w') (hq : ∀ k, S k → ¬ q k) (hT : ∀ k, k < w.heap.size → S k → T k) : BdE w' T xs E := by
  refine ⟨h.1, fun i hi => ?_⟩
  obtain ⟨q', c, h1, h2, h3⟩ := h.2 i hi
  exact ⟨q', c, h1, ((h2.mono (T := fun k => S k ∧ T k) (fun k hk hs => ⟨hs, hT k hk hs⟩)).kept (fun k hk hs => ho.block k hk (hq k hs.1))).mono (fun _ _ hh => hh.2), h3⟩
theorem BdE.push {w : World} {S : Nat → Prop} {xs : List Value} {E : List (List UInt8)} (h : BdE w S xs E) (b : List UInt8) (q : Addr) (c : Nat) (hr : Rd w S (some q) b) (hc : b.length ≤ c) : BdE w S (xs ++ [.slice (some q) b.length c]) (E ++ [b]) := by
  have h0 := h.1
  refine ⟨by simp only [List.length_append, List.length_cons, List.length_nil]; omega, fun i hi => ?_⟩
  simp only [List.length_append, List.length_cons, List.length_nil] at hi
  by_cases hlt : i < E.length
  · obtain ⟨q', c', h1, h2, h3⟩ := h.2 i hlt
    refine ⟨q', c', ?_, ?_, ?_⟩
    · rw [List.getElem?_append_left (by omega), h1, List.getElem_append_left hlt]
    · rwa [List.getElem_append_left hlt]
    · rwa [List.getElem_append_left hlt]
  · obtain rfl : i = E.length := by omega
    refine ⟨q, c, ?_, ?_, ?_⟩
    · rw [List.getElem?_append_right (by omega), h0, Nat.sub_self, List.getElem_append_right (Nat.le_refl _)]; simp
    · rw [List.getElem_append_right (Nat.le_refl _)]; simpa using hr
    · rw [List.getElem_append_right (Nat.le_refl _)]; simpa using hc
/-- A row of slices of bytes, of blocks of P. -/
structure RwI (w : World) (P : Nat → Prop) (v : Value) (E : List (List UInt8)) : Prop where
  ex : ∃ xs, w.ownsRow 0 38 1 v E.length xs ∧ BdE w (fun x => P x ∧ v.ownBlock ≠ some x) xs E
  ob : ∀ b, v.ownBlock = some b → P b ∧ b < w.heap.size
theorem RwI.nil (w : World) (P : Nat → Prop) : RwI w P (.slice none 0 0) [] := ⟨⟨[], World.ownsRow_nil _ _ _ _, BdE.nil _ _⟩, fun b h => by cases h⟩
theorem RwI.keep {w w' : World} {P q : Nat → Prop} {v : Value} {E : List (List UInt8)} (h : RwI w P v E) (ho : Only q w w') (hq : ∀ k, P k → ¬ q k) : RwI w' P v E := by
  obtain ⟨⟨xs, h1, h2⟩, h3⟩ := h
  exact ⟨⟨xs, owns_only h1 ho (fun k hk => hq k (h3 k hk).1), h2.keep ho (fun k hk => hq k hk.1) (fun k _ h => h)⟩, fun b hb => ⟨(h3 b hb).1, Nat.lt_of_lt_of_le (h3 b hb).2 ho.size⟩⟩
theorem RwI.mono {w : World} {P P' : Nat → Prop} {v : Value} {E : List (List UInt8)} (h : RwI w P v E) (hp : ∀ k, P k → P' k) : RwI w P' v E := by
  obtain ⟨⟨xs, h1, h2⟩, h3⟩ := h
  exact ⟨⟨xs, h1, h2.keep (Only.refl (fun _ => False) w) (fun _ _ h => h) (fun k _ h => ⟨hp k h.1, h.2⟩)⟩, fun b hb => ⟨hp b (h3 b hb).1, (h3 b hb).2⟩⟩
/-- A journal on a disk: its entries, and how many sectors they take; P says which blocks its rows lie in. -/
structure JI (w : World) (P : Nat → Prop) (j r g n k : Nat) (L : List UInt8) (E : List (List UInt8)) (used : Nat) : Prop where
  ex : ∃ p c, Blk w j 104 (jrV r (.slice p E.length c) used) ∧ RwI w P (.slice p E.length c) E
  d : DiskI w r g n k L
  ne : j ≠ r ∧ j ≠ g
  np : ¬ P j ∧ ¬ P r ∧ ¬ P g
theorem newest_0 (r g n k : Nat) (L : List UInt8) (w : World) (h : DiskI w r g n k L) (h4 : 4 ≤ n) (hN : nwF L = (0, 0, false)) : Calls Tryz.prog 34 #[rp r] w fun e w' => e = .returned (.tuple #[.int .u64 0, .int .i64 0, .bool false, .int .i64 0]) ∧ Below w.heap.size w w' := by
  refine (newest_c r g n k L w h h4).mono ?_
  rintro e w' ⟨rfl, hb⟩
  rw [hN]
  exact ⟨rfl, hb⟩
theorem slot_1 (w : World) : Calls Tryz.prog 36 #[.int .u64 1, .int .i64 0] w (NewOB w (slotF 1 0)) := slot_c 1 0 w (by decide)
theorem slotF_len (g : UInt64) (a : UInt8) : (slotF g a).length = 64 := by rw [slotF, List.length_append, slotH_len, sumL_len]
theorem dWrite_0 (r g n k : Nat) (L : List UInt8) (S : Nat → Prop) (q : Option Addr) (c : Nat) (b : List UInt8) (w : World) (h : DiskI w r g n k L) (hi : 0 < n) (hR : Rd w S q b) (hS : ∀ x, S x → x ≠ r ∧ x ≠ g) (hb : b.length = 64) (hk : k ≤ 1000000) :
    Calls Tryz.prog 35 #[rp r, .int .i64 0, .slice q 64 c] w (DwR w r g n (k + 1) (wrF L 0 b)) := dWrite_c r g n k 0 L S q c b w h hi hR hS hb hk
theorem dWrite_1 (r g n k : Nat) (L : List UInt8) (S : Nat → Prop) (q : Option Addr) (c : Nat) (b : List UInt8) (w : World) (h : DiskI w r g n k L) (hi : 1 < n) (hR : Rd w S q b) (hS : ∀ x, S x → x ≠ r ∧ x ≠ g) (hb : b.length = 64) (hk : k ≤ 1000000) :
    Calls Tryz.prog 35 #[rp r, .int .i64 1, .slice q 64 c] w (DwR w r g n (k + 1) (wrF L 1 b)) := dWrite_c r g n k 1 L S q c b w h hi hR hS hb hk
/-- What stands on the disk behind Format. -/
def fmF (L : List UInt8) : List UInt8 := wrF (wrF L 0 (List.replicate 64 0)) 1 (slotF 1 0)
def FmR (w : World) (r g n k : Nat) (L : List UInt8) (e : Ending) (w' : World) : Prop := ∃ j, e = .returned (.tuple #[rp j, .int .i64 0]) ∧ JI w' (fun _ => False) j r g n (k + 2) (fmF L) [] 0 ∧ w.heap.size ≤ j ∧ Only (fun x => x = r ∨ x = g) w w'
set_option maxHeartbeats 4000000 in
theorem format_c (r g n k : Nat) (L : List UInt8) (w : World) (h : DiskI w r g n k L) (h4 : 4 ≤ n) (hN : nwF L = (0, 0, false)) (hk : k ≤ 1000) : Calls Tryz.prog 14 #[rp r] w (FmR w r g n k L) := by
  have H := Lib.hid (And.intro h (And.intro h4 (And.intro hN hk)))
  have hmk : ∀ wx : World, (Instr.makeSlice 38 (.int .i64 64) (.int .i64 64)).run Tryz.prog wx = .ok (.slice (some ⟨wx.heap.size, 0, none⟩) 64 64) (wx.alloc (.cells ((List.replicate 64 (0 : UInt8)).map B8).toArray 5)) := run_mk8 64 (by omega)
  generalize hz : ((List.replicate 64 (0 : UInt8)).map B8).toArray = Z64 at *
  clear h hN hk
  go_enter Tryz.func14, Tryz.ntmps14
  go_upto_region 4 with (go_at_call 33; apply Calls.mono; (· (with_reducible refine jUsable_c r g n k L _ ?_ ?_); (· exact H.out.1); (· exact h4)); rintro e w1 ⟨rfl, hw⟩; rw [hw]; clear hw w1)
  go_upto_region 7 with (go_at_call 34; apply Calls.mono; (· (with_reducible refine newest_0 r g n k L _ ?_ ?_ ?_); (· exact H.out.1); (· exact h4); (· exact H.out.2.2.1)); rintro e w1 ⟨rfl, b1⟩)
  have hD1 := H.out.1.below b1
  have H1 := Lib.hid (And.intro hD1 b1)
  clear hD1 b1
  go_upto_region 9 with (fail)
  have hA0 : ArrB (w1.alloc (.cells Z64 5)) w1.heap.size 5 (List.replicate 64 0) := by rw [← hz]; exact ArrB.new _ _ _
  have hb0 : Below w1.heap.size w1 (w1.alloc (.cells Z64 5)) := (Below.refl _ w1).alloc (Nat.le_refl _) _
  have hlt : r < w1.heap.size ∧ g < w1.heap.size := ⟨H1.out.1.b.lt, H1.out.1.s.lt⟩
  have hD0 := H1.out.1.below hb0
  have HA := Lib.hid (And.intro hA0 (And.intro hb0 (And.intro hD0 hlt)))
  clear hA0 hb0 hlt hD0
  go_upto_region 12 with (go_at_call 35; apply Calls.mono; (· (with_reducible refine dWrite_0 r g n k L (fun k => k = w1.heap.size) _ 64 (List.replicate 64 0) _ ?_ ?_ ?_ ?_ ?_ ?_); (· exact HA.out.2.2.1); (· omega); (· exact ArrB.rd HA.out.1); (· intro x hx; have := HA.out.2.2.2; omega); (· rfl); (· have := H.out.2.2.2; omega)); rintro e w2 ⟨rfl, hD2, hO2⟩)
  have hO2' : Only (fun x => x = r ∨ x = g) w w2 := ((Only.of_below H1.out.2).then (Only.of_below (HA.out.2.1))).then hO2
  have H2 := Lib.hid (And.intro hD2 (And.intro hO2' hO2))
  clear hD2 hO2' hO2
  go_upto_region 15 with (first
    | (go_at_call 36; apply Calls.mono; (· (with_reducible exact slot_1 _)); rintro e w3 ⟨p3, n3, c3, rfl, h3, x3, b3⟩; have hD3 := H2.out.1.below b3; have hn3 := h3.len; rw [slotF_len] at hn3; subst hn3)
    | (go_at_call 35; apply Calls.mono; (· (with_reducible refine dWrite_1 r g n (k + 1) (wrF L 0 (List.replicate 64 0)) (fun k => owB p3 64 c3 k) p3 c3 (slotF 1 0) _ ?_ ?_ ?_ ?_ ?_ ?_); (· exact hD3); (· omega); (· exact h3.rd); (· intro x hx; have := x3 x hx; have := H2.out.1.b.lt; have := H2.out.1.s.lt; omega); (· exact slotF_len 1 0); (· have := H.out.2.2.2; omega)); rintro e w4 ⟨rfl, hD4, hO4⟩))
  have hO4' : Only (fun x => x = r ∨ x = g) w w4 := ((H2.out.2.1).then (Only.of_below b3)).then hO4
  have H4 := Lib.hid (And.intro hD4 hO4')
  clear hD4 hO4' hO4 hD3 h3 x3 b3
  go_wp2
  go_ret2
  have b := Blk.new w4 104 (jrV r (.slice none 0 0) 0)
  have hb4 : Below w4.heap.size w4 (w4.alloc (.cells (jrV r (.slice none 0 0) 0) 104)) := (Below.refl _ w4).alloc (Nat.le_refl _) _
  have hl4 : r < w4.heap.size ∧ g < w4.heap.size := ⟨H4.out.1.b.lt, H4.out.1.s.lt⟩
  refine ⟨w4.heap.size, rfl, ⟨⟨none, 0, b, RwI.nil _ _⟩, H4.out.1.below hb4, ⟨by omega, by omega⟩, ⟨fun h => h, fun h => h, fun h => h⟩⟩, H4.out.2.size, H4.out.2.then (Only.of_below hb4)⟩
end Go.Proofs.YtolgaapiedbkfaaGreat
/-
  The contract of journal's read where a sector of noughts comes. Conditions: those of the theorem.
-/
namespace Go.Proofs.YtolgaapiedbkfaaGreat
open Go.RowKit Go.Kx
set_option linter.unusedVariables false
set_option linter.unusedSimpArgs false
set_option maxRecDepth 100000
theorem DiskI.drewN {w : World} {r g n k : Nat} {L : List UInt8} (h : DiskI w r g n k L) (q : Nat) : DiskI (w.drewN q) r g n k L := h.only ((Only.refl (fun _ => False) w).drewN q) (fun h => h) (fun h => h)
theorem cvDi (x : UInt64) (hx : x.toNat ≤ 1000000) (w : World) : (convert 35 3 (D x)).run Tryz.prog w = .ok (.int .i64 (x.toNat : Int)) w := by
  have h : IntKind.i64.wrap (x.toNat : Int) = (x.toNat : Int) := IntWalk.i64_in _ (by omega)
  have hk : Tryz.prog.intKind 3 = .i64 := by kernel_rfl
  have h2 := run_convert_int (P := Tryz.prog) (w := w) 35 3 .u64 (x.toNat : Int) (by rw [show Tryz.prog.underlying 35 = some (.int .u64) by kernel_rfl]; rfl) (by rw [hk]; exact Tryz.underlying3)
  rw [hk, h] at h2
  exact h2
theorem jFirst_0 (r g n k : Nat) (L : List UInt8) (w : World) (h : DiskI w r g n k L) (h2 : 2 ≤ n) : Calls Tryz.prog 86 #[rp r, .int .i64 0] w fun e w' => e = .returned (.int .i64 2) ∧ w' = w := by
  refine (jFirst_c r g n k 0 L w h h2 (by decide)).mono ?_
  rintro e w' ⟨rfl, rfl⟩
  exact ⟨by simp, rfl⟩
theorem number_2 (S : Nat → Prop) (g o c : Nat) (b : List UInt8) (w : World) (hR : Rd w S (some ⟨g, o, none⟩) b) (hn : b.length = 2) :
    Calls Tryz.prog 110 #[.slice (some ⟨g, o, none⟩) 2 c] w fun e w' => e = .returned (D (nuF b)) ∧ w' = w := number_c S g o 2 c b w hR hn (by decide)
theorem number_z (S : Nat → Prop) (g o c : Nat) (b : List UInt8) (w : World) (hR : Rd w S (some ⟨g, o, none⟩) b) (hn : b.length = 2) (hz : nuF b = 0) :
    Calls Tryz.prog 110 #[.slice (some ⟨g, o, none⟩) 2 c] w fun e w' => e = .returned (.int .u64 0) ∧ w' = w := by
  refine (number_2 S g o c b w hR hn).mono ?_
  rintro e w' ⟨rfl, rfl⟩
  rw [hz]
  exact ⟨rfl, rfl⟩
theorem rd_mid {w : World} {S : Nat → Prop} {g : Nat} {l : List UInt8} (h : Rd w S (some ⟨g, 0, none⟩) l) (k m : Nat) : Rd w S (some ⟨g, k, none⟩) ((l.drop k).take m) := by
  have h1 := rd_drop (k := k) h
  rw [Nat.zero_add] at h1
  exact rd_take h1 m
/-- read found nothing. -/
def RdnR (w : World) (e : Ending) (w' : World) : Prop := e = .returned (.tuple #[.slice none 0 0, .int .i64 0]) ∧ Below w.heap.size w w'
set_option maxHeartbeats 8000000 in
theorem read_end_c (j r g n k used m c : Nat) (p : Option Addr) (L : List UInt8) (w : World) (hJ : Blk w j 104 (jrV r (.slice p m c) used)) (hD : DiskI w r g n k L) (h4 : 4 ≤ n) (hu : used < areaF n) (hz : nuF (((secF L (2 + used)).drop 16).take 2) = 0) :
    Calls Tryz.prog 72 #[rp j] w (RdnR w) := by
  have hA : areaF n ≤ 512 ∧ 2 + areaF n ≤ n := by have := hD.n0; unfold areaF; omega
  have hn := hD.n0
  have c0 : w.cell? ⟨j, 0, none⟩ = some (rp r) := hJ.c 0
  have c2 : w.cell? ⟨j, 2, none⟩ = some (.int .i64 0) := hJ.c 2
  have c4 : w.cell? ⟨j, 4, none⟩ = some (.int .i64 (used : Int)) := hJ.c 4
  have HD := Lib.hid (And.intro hJ hD)
  have k1 : wrap64 (((areaF n : Nat) : Int) - (used : Int)) = ((areaF n : Nat) : Int) - (used : Int) := IntWalk.wrap64_in _ ⟨by omega, by omega⟩
  have hsl := secF_len L (2 + used) n hD.l (by omega)
  clear hJ hD hn
  go_enter Tryz.func72, Tryz.ntmps72
  go_upto_region 1 with (fail)
  go_quiet ((go_at_call 85; exact Calls.quiet_of_same (jSize_c r g n k L _ (HD.out.2.drewN _) (by omega))))
  obtain ⟨LE, hLE⟩ : ∃ LE, LE = areaF n - used := ⟨_, rfl⟩
  obtain ⟨AT, hAT⟩ : ∃ AT, AT = 2 + used := ⟨_, rfl⟩
  have e1 : ((areaF n : Nat) : Int) - (used : Int) = (LE : Int) := by omega
  have e2 : 2 + (used : Int) = (AT : Int) := by omega
  rw [← hAT] at hz hsl
  have E := Lib.hid (And.intro e1 (And.intro e2 (And.intro hLE hAT)))
  have HZ := Lib.hid (And.intro hz (And.intro hsl (And.intro h4 (And.intro hu hA))))
  have k2 : ¬ ((LE : Int) = 0) := by omega
  have k3 : ¬ (LE = 0) := by omega
  have k4 : wrap64 (2 + (used : Int)) = 2 + (used : Int) := IntWalk.wrap64_in _ ⟨by omega, by omega⟩
  clear e1 e2 hLE hAT hz hsl
  go_upto_region 2 with (fail)
  rw [E.out.1]
  go_upto_region 4 with (fail)
  go_quiet ((go_at_call 86; exact quiet_on (jFirst_0 r g n k L _ (HD.out.2.drewN _) (by omega))))
  go_upto_region 5 with (fail)
  refine wp_world (fun W => Below w.heap.size w W) ⟨rfl, rfl, rfl, Nat.le_refl _, fun _ _ => rfl⟩ ?_
  intro W hW
  try rw [E.out.2.1]
  have hJ := HD.out.1.below hW
  have hD := HD.out.2.below hW
  have d0 : W.cell? ⟨j, 0, none⟩ = some (rp r) := hJ.c 0
  clear c0 c2 c4 k4
  have H0 := Lib.hid (And.intro hW hD)
  clear hW hJ hD
  go_upto_region 8 with (go_at_call 67; apply Calls.mono; (· (with_reducible refine dRead_c r g n k AT L _ ?_ ?_); (· exact H0.out.2); (· have := E.out.2.2.2; have := HZ.out.2.2.2.1; have := HZ.out.2.2.2.2; omega)); rintro e w1 ⟨p1, n1, c1, rfl, h1, x1, b1⟩)
  have hn1 := h1.len
  rw [HZ.out.2.1] at hn1
  subst hn1
  obtain ⟨g1, rfl, _, _⟩ := h1.pos (by decide)
  have hc1 := h1.form.1
  have q1 : (18 : Int) ≤ (c1 : Int) := by omega
  have q2 : 18 ≤ c1 := by omega
  have hrm := rd_mid h1.rd 16 2
  have hlm : (((secF L AT).drop 16).take 2).length = 2 := by rw [List.length_take, List.length_drop, HZ.out.2.1]; rfl
  have hb1 := H0.out.1.trans (b1.mono H0.out.1.size)
  clear h1 x1 b1
  go_upto_region 9 with (go_at_call 110; apply Calls.mono; (· (with_reducible refine number_z (fun k => owB (some ⟨g1, 0, none⟩) 64 c1 k) g1 16 (c1 - 16) (((secF L AT).drop 16).take 2) _ ?_ ?_ ?_); (· exact hrm); (· exact hlm); (· exact HZ.out.1)); rintro e w2 ⟨rfl, hw⟩; rw [hw]; clear hw w2)
  go_wp2
  go_ret2
  exact ⟨rfl, hb1⟩
end Go.Proofs.YtolgaapiedbkfaaGreat
/-
  The contract of journal's read where an entry stands. Conditions: those of the theorem.
-/
namespace Go.Kx
open Go.Proofs.YtolgaapiedbkfaaGreat
theorem nu2' : ∀ a < 65, ∀ b < 64, (nuF (bgK (UInt64.ofNat (64 * a + b)) 2)).toNat = 64 * a + b := by decide +kernel
theorem nu2 (n : Nat) (h : n < 4097) : (nuF (bgK (UInt64.ofNat n) 2)).toNat = n := by
  have := nu2' (n / 64) (by omega) (n % 64) (by omega)
  rwa [show 64 * (n / 64) + n % 64 = n by omega] at this
theorem secsF_mark (gen : UInt64) (num : Nat) (b : List UInt8) : (secsF gen num b).take 16 = (markS gen num b).take 16 := by
  unfold secsF secsH
  rw [List.append_assoc, List.append_assoc]
  exact List.take_left' (by rw [List.length_take, markS_len]; rfl)
theorem secsF_len2 (gen : UInt64) (num : Nat) (b : List UInt8) : ((secsF gen num b).drop 16).take 2 = bgK (UInt64.ofNat b.length) 2 := by
  unfold secsF secsH
  rw [List.append_assoc, List.append_assoc, List.drop_left' (by rw [List.length_take, markS_len]; rfl)]
  exact List.take_left' (bgK_len _ _)
theorem secsF_text (gen : UInt64) (num : Nat) (b : List UInt8) : ((secsF gen num b).drop 18).take b.length = b := by
  unfold secsF secsH
  rw [List.append_assoc ((markS gen num b).take 16 ++ bgK (UInt64.ofNat b.length) 2), List.drop_left' (by rw [List.length_append, bgK_len, List.length_take, markS_len]; rfl)]
  exact List.take_left' rfl
theorem take_more (S : List UInt8) (i : Nat) : S.take (64 * i) ++ (S.drop (64 * i)).take 64 = S.take (64 * (i + 1)) := by
  rw [show 64 * (i + 1) = 64 * i + 64 by omega, List.take_add]
/-- A sector of several. -/
theorem secF_of (L S : List UInt8) (at' N i : Nat) (h : (L.drop (at' * 64)).take (64 * N) = S) (hi : i < N) : secF L (at' + i) = (S.drop (64 * i)).take 64 := by
  rw [← h, secF, List.drop_take, List.take_take, List.drop_drop]
  rw [show at' * 64 + 64 * i = (at' + i) * 64 by omega, Nat.min_eq_left (by omega)]
end Go.Kx
namespace Go.Proofs.YtolgaapiedbkfaaGreat
open Go.RowKit Go.Kx
set_option linter.unusedVariables false
set_option linter.unusedSimpArgs false
set_option maxRecDepth 100000
theorem wrap64_nat (x : Nat) (h : x ≤ 1000000) : wrap64 (x : Int) = (x : Int) := IntWalk.wrap64_in _ ⟨by omega, by omega⟩
theorem dRead_i (r g n k i : Nat) (x : Int) (L : List UInt8) (w : World) (h : DiskI w r g n k L) (hx : x = (i : Int)) (hi : i < n) : Calls Tryz.prog 67 #[rp r, .int .i64 x] w (OpenR w (secF L i)) := by rw [hx]; exact dRead_c r g n k i L w h hi
theorem number_x (S : Nat → Prop) (g o c : Nat) (b : List UInt8) (X : UInt64) (w : World) (hR : Rd w S (some ⟨g, o, none⟩) b) (hn : b.length = 2) (hX : nuF b = X) :
    Calls Tryz.prog 110 #[.slice (some ⟨g, o, none⟩) 2 c] w fun e w' => e = .returned (D X) ∧ w' = w := by
  rw [← hX]
  exact number_2 S g o c b w hR hn
theorem mark_1 (num : Nat) (T : Nat → Prop) (q : Option Addr) (m k : Nat) (b : List UInt8) (w : World) (hR : Rd w T q b) (hq : q = none → k = 0) (hm : b.length = m) (hl : m ≤ 1000000) (hnum : num ≤ 1000000) :
    Calls Tryz.prog 115 #[.int .u64 1, .int .i64 (num : Int), .slice q m k] w (MkR w (markS 1 num b)) := mark_c 1 num T q m k b w hR hq hm hl hnum
def RdRel (w : World) (S : List UInt8) (N : Nat) (v6 v9 : Value) (wr : World) : Prop := ∃ i p n c, v6 = .slice p n c ∧ v9 = .int .i64 ((i : Nat) : Int) ∧ OB wr p n c (S.take (64 * i)) ∧ 1 ≤ i ∧ i ≤ N ∧ Below w.heap.size w wr ∧ (∀ x, owB p n c x → w.heap.size ≤ x)
/-- read found an entry. -/
def RdyR (w : World) (b : List UInt8) (e : Ending) (w' : World) : Prop := ∃ G c, e = .returned (.tuple #[.slice (some ⟨G, 18, none⟩) b.length c, .int .i64 0]) ∧ Rd w' (fun x => x = G) (some ⟨G, 18, none⟩) b ∧ b.length ≤ c ∧ w.heap.size ≤ G ∧ Below w.heap.size w w'
set_option maxHeartbeats 16000000 in
theorem read_one_c (j r g n k used m c M N LE AT : Nat) (p : Option Addr) (L b : List UInt8) (w : World) (hJ : Blk w j 104 (jrV r (.slice p m c) used)) (hD : DiskI w r g n k L) (h4 : 4 ≤ n) (hM : b.length = M) (hN : needF M = N) (hb1 : 1 ≤ M) (hb2 : M ≤ 4096) (hu : used + N ≤ areaF n) (hm : m ≤ 1000000) (hLE : LE = areaF n - used) (hAT : AT = 2 + used) (hS : (L.drop (AT * 64)).take (64 * N) = secsF 1 m b) :
    Calls Tryz.prog 72 #[rp j] w (RdyR w b) := by
  have hA : areaF n ≤ 512 ∧ 2 + areaF n ≤ n := by have := hD.n0; unfold areaF; omega
  have hn := hD.n0
  have hN1 : 1 ≤ N ∧ 18 + M ≤ 64 * N ∧ N ≤ 66 := by rw [← hN]; unfold needF; omega
  have c0 : w.cell? ⟨j, 0, none⟩ = some (rp r) := hJ.c 0
  have c2 : w.cell? ⟨j, 2, none⟩ = some (.int .i64 0) := hJ.c 2
  have c4 : w.cell? ⟨j, 4, none⟩ = some (.int .i64 (used : Int)) := hJ.c 4
  have HD := Lib.hid (And.intro hJ hD)
  have k1 : wrap64 (((areaF n : Nat) : Int) - (used : Int)) = ((areaF n : Nat) : Int) - (used : Int) := IntWalk.wrap64_in _ ⟨by omega, by omega⟩
  have hsl := secF_len L AT n hD.l (by omega)
  have hsk : ∀ i, i < N → secF L (AT + i) = ((secsF 1 m b).drop (64 * i)).take 64 := fun i hi => secF_of L _ AT N i hS hi
  have hx0 : ((secF L AT).drop 16).take 2 = bgK (UInt64.ofNat M) 2 := by
    have e := hsk 0 (by omega)
    rw [Nat.add_zero, Nat.mul_zero, List.drop_zero] at e
    rw [e, ← hM, ← secsF_len2 1 m b, List.drop_take, List.take_take]
    rfl
  have hSl := secsF_len 1 m b
  have hSm := secsF_mark 1 m b
  have hSt := secsF_text 1 m b
  rw [hM] at hSt
  rw [hM, hN] at hSl
  have hnu := nu2 M (by omega)
  rw [← hx0] at hnu
  clear hJ hD hS hx0
  generalize secsF 1 m b = S at *
  have e1 : ((areaF n : Nat) : Int) - (used : Int) = (LE : Int) := by omega
  have e2 : 2 + (used : Int) = (AT : Int) := by omega
  obtain ⟨X, hX⟩ : ∃ X, nuF (((secF L AT).drop 16).take 2) = X := ⟨_, rfl⟩
  rw [hX] at hnu
  have cvX : ∀ wx, (convert 35 3 (D X)).run Tryz.prog wx = .ok (.int .i64 (M : Int)) wx := fun wx => by
    have h := cvDi X (by omega) wx
    rw [hnu] at h
    exact h
  have E := Lib.hid (And.intro e1 (And.intro e2 (And.intro hLE (And.intro hAT (And.intro hN hM)))))
  have HZ := Lib.hid (And.intro hsl (And.intro h4 (And.intro hu (And.intro hA (And.intro hX (And.intro hsk (And.intro hSl (And.intro hSm (And.intro hSt (And.intro hN1 (And.intro hm hn)))))))))))
  have hAT2 : AT ≤ 1000000 := by omega
  have hLE2 : LE ≤ 1000000 := by omega
  have k2 : ¬ ((LE : Int) = 0) := by omega
  have k3 : ¬ (LE = 0) := by omega
  have k4 : wrap64 (2 + (used : Int)) = 2 + (used : Int) := IntWalk.wrap64_in _ ⟨by omega, by omega⟩
  have k5 : ¬ ((M : Int) = 0) := by omega
  have k5' : ¬ (M = 0) := by omega
  have k5b : ((M : Int) == 0) = false := by simpa using k5'
  have k6 : ¬ ((4096 : Int) < (M : Int)) := by omega
  have k6' : ¬ (4096 < M) := by omega
  have k7 : ¬ ((LE : Int) < (N : Int)) := by omega
  have k7' : ¬ (LE < N) := by omega
  clear e1 e2 hLE hAT hsl hX hsk hSl hSm hSt hnu hn hN1 hu hM hN
  have HM6 : Hid (M ≤ 1000000) := Lib.hid (by omega)
  have K4 := Lib.hid (wrap64_nat AT (by omega))
  have k1' : wrap64 (LE : Int) = (LE : Int) := wrap64_nat LE hLE2
  clear hLE2
  go_enter Tryz.func72, Tryz.ntmps72
  go_upto_region 1 with (fail)
  go_quiet ((go_at_call 85; exact Calls.quiet_of_same (jSize_c r g n k L _ (HD.out.2.drewN _) (by omega))))
  go_upto_region 2 with (fail)
  rw [E.out.1]
  try rw [k1']
  clear k1'
  go_upto_region 4 with (fail)
  go_quiet ((go_at_call 86; exact quiet_on (jFirst_0 r g n k L _ (HD.out.2.drewN _) (by omega))))
  go_upto_region 5 with (fail)
  refine wp_world (fun W => Below w.heap.size w W) ⟨rfl, rfl, rfl, Nat.le_refl _, fun _ _ => rfl⟩ ?_
  intro W hW
  try rw [E.out.2.1]
  try rw [K4.out]
  clear K4
  have hJ := HD.out.1.below hW
  have hD := HD.out.2.below hW
  have d0 : W.cell? ⟨j, 0, none⟩ = some (rp r) := hJ.c 0
  clear c0 c2 c4 k4
  have H0 := Lib.hid (And.intro hW (And.intro hJ hD))
  clear hW hJ hD
  go_upto_region 8 with (go_at_call 67; apply Calls.mono; (· (with_reducible refine dRead_c r g n k AT L _ ?_ ?_); (· exact H0.out.2.2); (· have := E.out.2.2.2.1; have := HZ.out.2.2.1; have := HZ.out.2.2.2.1; have := HZ.out.2.2.2.2.2.2.2.2.2.1; omega)); rintro e w1 ⟨p1, n1, c1, rfl, h1, x1, b1⟩)
  have hn1 := h1.len
  rw [HZ.out.1] at hn1
  subst hn1
  obtain ⟨g1, rfl, _, _⟩ := h1.pos (by decide)
  have hc1 := h1.form.1
  have q1 : (18 : Int) ≤ (c1 : Int) := by omega
  have q2 : 18 ≤ c1 := by omega
  have hrm := rd_mid h1.rd 16 2
  have hlm : (((secF L AT).drop 16).take 2).length = 2 := by rw [List.length_take, List.length_drop, HZ.out.1]; rfl
  have hb1 := H0.out.1.trans (b1.mono H0.out.1.size)
  have h0 : RdRel w S N (.slice (some ⟨g1, 0, none⟩) 64 c1) (.int .i64 1) w1 := by
    refine ⟨1, _, _, _, rfl, rfl, ?_, Nat.le_refl _, by have := HZ.out.2.2.2.2.2.2.2.2.2.1; omega, hb1, fun x hx => by have := x1 x hx; have := H0.out.1.size; omega⟩
    have e := HZ.out.2.2.2.2.2.1 0 (by have := HZ.out.2.2.2.2.2.2.2.2.2.1; omega)
    rw [Nat.add_zero, Nat.mul_zero, List.drop_zero] at e
    rw [e] at h1
    exact h1
  have HR := Lib.hid h0
  clear h0 h1 x1 b1
  go_upto_region 9 with (go_at_call 110; apply Calls.mono; (· (with_reducible refine number_x (fun k => owB (some ⟨g1, 0, none⟩) 64 c1 k) g1 16 (c1 - 16) (((secF L AT).drop 16).take 2) X _ ?_ ?_ ?_); (· exact hrm); (· exact hlm); (· exact HZ.out.2.2.2.2.1)); rintro e w2 ⟨rfl, hw⟩; rw [hw]; clear hw w2)
  clear hrm hlm hb1 q1 q2 hc1
  go_upto_region 12 with (go_at_call 73; apply Calls.mono; (· (with_reducible refine need_c M _ ?_); (· exact HM6.out)); rintro e w4 ⟨rfl, hw4⟩; rw [hw4, E.out.2.2.2.2.1]; clear hw4 w4)
  clear d0 k1 k2 k3 k5 k5b k5' k6 k6' k7 k7' cvX
  go_loopw [6, 9, 10, 11, 73] (fun v6 v9 v10 v11 v73 wr => RdRel w S N v6 v9 wr) (fun v6 v9 v10 v11 v73 _ => (N - (intOf v9).toNat))
  case atStart => exact HR.out
  case round =>
    obtain ⟨i, p2, n2, c2, rfl, rfl, hO, hi1, hiN, hB, hx⟩ := hrel
    have HO := Lib.hid (And.intro hO (And.intro hB hx))
    have hJ := HD.out.1.below hB
    have d0 : wr.cell? ⟨j, 0, none⟩ = some (rp r) := hJ.c 0
    clear hO hB hx hJ
    by_cases hi : i < N
    · have k1 : (i : Int) < (N : Int) := by omega
      have hN66 := HZ.out.2.2.2.2.2.2.2.2.2.1
      have hat : AT + N ≤ n := by have := E.out.2.2.2.1; have := HZ.out.2.2.1; have := HZ.out.2.2.2.1; omega
      have hn512 := HZ.out.2.2.2.2.2.2.2.2.2.2.2
      have k2 : wrap64 ((AT : Int) + (i : Int)) = (AT : Int) + (i : Int) := IntWalk.wrap64_in _ ⟨by omega, by omega⟩
      have k3 : wrap64 ((i : Int) + 1) = (i : Int) + 1 := IntWalk.wrap64_in _ ⟨by omega, by omega⟩
      have HK := Lib.hid (And.intro k2 (And.intro hat hn512))
      clear hN66 hat hn512
      go_upto_region 14 with (go_at_call 73; apply Calls.mono; (· (with_reducible refine need_c M _ ?_); (· exact HM6.out)); rintro e w4 ⟨rfl, hw4⟩; rw [hw4, E.out.2.2.2.2.1]; clear hw4 w4)
      go_upto_region 17 with (go_at_call 67; apply Calls.mono; (· (with_reducible refine dRead_i r g n k (AT + i) ((AT : Int) + (i : Int)) L _ ?_ ?_ ?_); (· exact HD.out.2.below HO.out.2.1); (· exact (Int.natCast_add AT i).symm); (· have := HK.out.2.1; clear k1 k2 k3; omega)); rintro e w5 ⟨p5, n5, c5, rfl, h5, x5, b5⟩; rw [HZ.out.2.2.2.2.2.1 i hi] at h5)
      have hB5 := HO.out.2.1.trans (b5.mono HO.out.2.1.size)
      have hO5 := HO.out.1.below b5
      have hT5 := take_more S i
      have hl5 : (S.take (64 * i)).length + ((S.drop (64 * i)).take 64).length ≤ 140737488355328 := by
        clear k1 k2 k3
        rw [List.length_take, List.length_take]
        have := HZ.out.2.2.2.2.2.2.1
        have := HZ.out.2.2.2.2.2.2.2.2.2.1
        omega
      have H5 := Lib.hid (And.intro hB5 (And.intro hO5 (And.intro hT5 (And.intro hl5 (And.intro h5 x5)))))
      clear hB5 hO5 hT5 hl5 h5 x5 b5 d0 k2
      go_wp2_with (at_builtin; refine wpList_app8 rfl _ _ rfl H5.out.2.1 rfl (fun x => owB p5 n5 c5 x) p5 n5 c5 ((S.drop (64 * i)).take 64) rfl H5.out.2.2.2.2.1.len H5.out.2.2.2.2.1.rd H5.out.2.2.2.2.1.nilc H5.out.2.2.2.1 ?_; intro p6 n6 c6 w6 h6 x6 hO6)
      rw [k3]
      clear k1 k3
      refine ⟨⟨i + 1, p6, n6, c6, rfl, rfl, by rw [← H5.out.2.2.1]; exact h6, by omega, by omega, below_only H5.out.1 H5.out.1.size hO6 (fun x hx e => by have := HO.out.2.2 x e; omega), fun x hx => ?_⟩, by simp [intOf]; omega⟩
      rcases x6 x hx with h | h
      · exact HO.out.2.2 x h
      · have := H5.out.1.size; omega
    · obtain rfl : i = N := by omega
      have k1 : ¬ ((i : Int) < (i : Int)) := by omega
      have hN1 := HZ.out.2.2.2.2.2.2.2.2.2.1
      have hSt : S.take (64 * i) = S := List.take_of_length_le (by rw [HZ.out.2.2.2.2.2.2.1]; exact Nat.le_refl _)
      have ho := HO.out.1
      rw [hSt] at ho
      have hn2 := ho.len
      rw [HZ.out.2.2.2.2.2.2.1] at hn2
      obtain ⟨G, rfl, hog, hgl⟩ := ho.pos (by omega)
      have hG := HO.out.2.2 G hog
      have hfo := ho.form.1
      have q2 : (0 : Int) ≤ 18 + (M : Int) ∧ 18 + (M : Int) ≤ (c2 : Int) := ⟨by omega, by omega⟩
      have hq8 : 18 + M - 18 = M := by omega
      have Q8 := Lib.hid hq8
      have q9 : ¬ (c2 = 18) := by omega
      have q6 : (16 : Int) ≤ (c2 : Int) := by omega
      have q7 : 16 ≤ c2 := by omega
      clear hq8
      have hr1 : ∀ {wx : World}, Below wr.heap.size wr wx → Rd wx (fun x => x = G) (some ⟨G, 0, none⟩) (S.take 16) := fun hb => by
        have h := rd_take (ho.below hb).rd 16
        exact h.mono (fun x hx e => by cases e; rfl)
      have hr2 : ∀ {wx : World}, Below wr.heap.size wr wx → Rd wx (fun x => x = G) (some ⟨G, 18, none⟩) b := fun hb => by
        have h := rd_mid (ho.below hb).rd 18 M
        rw [HZ.out.2.2.2.2.2.2.2.2.1] at h
        exact h.mono (fun x hx e => by cases e; rfl)
      have HF := Lib.hid (And.intro ho (And.intro hG (And.intro hfo (And.intro hN1 hn2))))
      clear ho hG hfo hn2 hSt hN1
      clear k1 hi hi1 hiN d0
      go_upto_region 18 with (go_at_call 73; apply Calls.mono; (· (with_reducible refine need_c M _ ?_); (· exact HM6.out)); rintro e w4 ⟨rfl, hw4⟩; rw [hw4, E.out.2.2.2.2.1]; clear hw4 w4)
      go_upto_region 19 with (fail)
      try rw [Q8.out]
      clear q2 q9
      have hJr := HD.out.1.below HO.out.2.1
      have c1 : ∀ {wx : World}, Below wr.heap.size wr wx → wx.cell? ⟨j, 1, none⟩ = some (.int .u64 1) := fun hb => (hJr.below hb).c 1
      have c3 : ∀ {wx : World}, Below wr.heap.size wr wx → wx.cell? ⟨j, 3, none⟩ = some (.slice p m c) := fun hb => (hJr.below hb).c 3
      refine wp_region_tail (S := fun wx => Below wr.heap.size wr wx) (n := 14) (by kernel_rfl) (by decide) ?_
      try simp only [List.drop_succ_cons, List.drop_zero]
      obtain ⟨u0, hu0⟩ : ∃ u, u = wr.drew := ⟨_, rfl⟩
      have hS : Below wr.heap.size wr u0 := by rw [hu0]; exact (Below.refl _ _).drew
      rw [← hu0]
      clear hu0
      try simp only [Act.put]
      refine wpAnyT_take (i := 0) (oi := _) (v := (.slice (some ⟨G, 0, none⟩) n2 c2)) rfl (by kernel_rfl) (fun _ _ _ h => h) (by kernel_rfl) (fun wq hq => rfl) hS ?_
      try simp only [List.getElem_toArray, List.getElem_cons_succ, List.getElem_cons_zero, Act.put, List.setIfInBounds_toArray, List.set_cons_zero, List.set_cons_succ]
      refine wpAnyT_take (i := 1) (oi := _) (v := (.slice (some ⟨G, 0, none⟩) 16 c2)) rfl (by kernel_rfl) (fun _ _ _ h => h) (by kernel_rfl) (fun wq hq => by go_simp) hS ?_
      try simp only [List.getElem_toArray, List.getElem_cons_succ, List.getElem_cons_zero, Act.put, List.setIfInBounds_toArray, List.set_cons_zero, List.set_cons_succ]
      refine wpAnyT_take (i := 2) (oi := _) (v := (rp j)) rfl (by kernel_rfl) (fun _ _ _ h => h) (by kernel_rfl) (fun wq hq => rfl) hS ?_
      try simp only [List.getElem_toArray, List.getElem_cons_succ, List.getElem_cons_zero, Act.put, List.setIfInBounds_toArray, List.set_cons_zero, List.set_cons_succ]
      refine wpAnyT_take (i := 3) (oi := _) (v := (rp j)) rfl (by kernel_rfl) (fun _ _ _ h => h) (by kernel_rfl) (fun wq hq => rfl) hS ?_
      try simp only [List.getElem_toArray, List.getElem_cons_succ, List.getElem_cons_zero, Act.put, List.setIfInBounds_toArray, List.set_cons_zero, List.set_cons_succ]
      refine wpAnyT_take (i := 4) (oi := _) (v := (.pointer (some ⟨j, 1, none⟩))) rfl (by kernel_rfl) (fun _ _ _ h => h) (by kernel_rfl) (fun wq hq => by go_simp) hS ?_
      try simp only [List.getElem_toArray, List.getElem_cons_succ, List.getElem_cons_zero, Act.put, List.setIfInBounds_toArray, List.set_cons_zero, List.set_cons_succ]
      refine wpAnyT_take (i := 5) (oi := _) (v := (.int .u64 1)) rfl (by kernel_rfl) (fun _ _ _ h => h) (by kernel_rfl) (fun wq hq => by have h := c1 hq; go_simp) hS ?_
      try simp only [List.getElem_toArray, List.getElem_cons_succ, List.getElem_cons_zero, Act.put, List.setIfInBounds_toArray, List.set_cons_zero, List.set_cons_succ]
      refine wpAnyT_take (i := 6) (oi := _) (v := (rp j)) rfl (by kernel_rfl) (fun _ _ _ h => h) (by kernel_rfl) (fun wq hq => rfl) hS ?_
      try simp only [List.getElem_toArray, List.getElem_cons_succ, List.getElem_cons_zero, Act.put, List.setIfInBounds_toArray, List.set_cons_zero, List.set_cons_succ]
      refine wpAnyT_take (i := 7) (oi := _) (v := (rp j)) rfl (by kernel_rfl) (fun _ _ _ h => h) (by kernel_rfl) (fun wq hq => rfl) hS ?_
      try simp only [List.getElem_toArray, List.getElem_cons_succ, List.getElem_cons_zero, Act.put, List.setIfInBounds_toArray, List.set_cons_zero, List.set_cons_succ]
      refine wpAnyT_take (i := 8) (oi := _) (v := (.pointer (some ⟨j, 3, none⟩))) rfl (by kernel_rfl) (fun _ _ _ h => h) (by kernel_rfl) (fun wq hq => by go_simp) hS ?_
      try simp only [List.getElem_toArray, List.getElem_cons_succ, List.getElem_cons_zero, Act.put, List.setIfInBounds_toArray, List.set_cons_zero, List.set_cons_succ]
      refine wpAnyT_take (i := 9) (oi := _) (v := (.slice p m c)) rfl (by kernel_rfl) (fun _ _ _ h => h) (by kernel_rfl) (fun wq hq => by have h := c3 hq; go_simp) hS ?_
      try simp only [List.getElem_toArray, List.getElem_cons_succ, List.getElem_cons_zero, Act.put, List.setIfInBounds_toArray, List.set_cons_zero, List.set_cons_succ]
      refine wpAnyT_take (i := 10) (oi := _) (v := (.int .i64 (m : Int))) rfl (by kernel_rfl) (fun _ _ _ h => h) (by kernel_rfl) (fun wq hq => by go_simp) hS ?_
      try simp only [List.getElem_toArray, List.getElem_cons_succ, List.getElem_cons_zero, Act.put, List.setIfInBounds_toArray, List.set_cons_zero, List.set_cons_succ]
      refine wpAnyT_take (i := 11) (oi := _) (v := (.slice (some ⟨G, 18, none⟩) M (c2 - 18))) rfl (by kernel_rfl) (fun _ _ _ h => h) (by kernel_rfl) (fun wq hq => rfl) hS ?_
      try simp only [List.getElem_toArray, List.getElem_cons_succ, List.getElem_cons_zero, Act.put, List.setIfInBounds_toArray, List.set_cons_zero, List.set_cons_succ]
      refine wpAnyT_ready (rs := [12]) (by kernel_rfl) (by simp) ?_
      refine AllReadyT.cons rfl (by decide) (fun K hC => ?_) AllReadyT.nil
      go_simp
      go_wp2_with (go_at_call 115; apply Calls.mono; (· (with_reducible refine mark_1 m (fun x => x = G) (some ⟨G, 18, none⟩) M (c2 - 18) b _ ?_ ?_ ?_ ?_ ?_); (· exact hr2 hS); (· intro h; cases h); (· exact E.out.2.2.2.2.2); (· exact HM6.out); (· exact HZ.out.2.2.2.2.2.2.2.2.2.2.1)); rintro e w7 ⟨G7, rfl, hA7, hG7, b7⟩)
      have hS7 := hS.trans (b7.mono hS.size)
      refine hC.out _ _ hS7 ?_
      clear hC K
      try simp only [Act.put, List.setIfInBounds_toArray, List.set_cons_zero, List.set_cons_succ]
      refine wpAnyT_ready (rs := [13]) (by kernel_rfl) (by simp) ?_
      refine AllReadyT.cons rfl (by decide) (fun K hC => ?_) AllReadyT.nil
      go_simp
      go_wp2_with (go_at_call 111; apply Calls.mono; (· (with_reducible refine bytesEq_c (fun x => x = G) (fun x => x = G7) (some ⟨G, 0, none⟩) (some ⟨G7, 0, none⟩) 16 c2 16 32 (S.take 16) ((markS 1 m b).take 16) _ ?_ ?_ ?_ ?_); (· exact hr1 hS7); (· rw [List.length_take, HZ.out.2.2.2.2.2.2.1]; have := HZ.out.2.2.2.2.2.2.2.2.2.1; omega); (· exact rd_take (ArrB.rd hA7) 16); (· rw [List.length_take, markS_len]; rfl)); rintro e w8 ⟨rfl, hw8⟩; rw [hw8]; clear hw8 w8)
      have hdec : decide (S.take 16 = (markS 1 m b).take 16) = true := decide_eq_true HZ.out.2.2.2.2.2.2.2.1
      rw [hdec]
      refine hC.out _ _ hS7 ?_
      clear hC K hdec
      try simp only [Act.put, List.setIfInBounds_toArray, List.set_cons_zero, List.set_cons_succ]
      refine wpAnyT_tail (by kernel_rfl) ?_
      try simp only [List.getElem_toArray, List.getElem_cons_succ, List.getElem_cons_zero, Act.put, List.setIfInBounds_toArray, List.set_cons_zero, List.set_cons_succ]
      have hBz := HO.out.2.1.trans (hS7.mono HO.out.2.1.size)
      have hrz := hr2 hS7
      clear hS hA7 b7 hG7
      go_wp2
      go_ret2
      refine ⟨G, c2 - 18, by rw [E.out.2.2.2.2.2]; rfl, hrz, ?_, HF.out.2.1, hBz⟩
      rw [E.out.2.2.2.2.2]
      have := HF.out.2.2.1
      have := HF.out.2.2.2.2
      have := HF.out.2.2.2.1
      omega
end Go.Proofs.YtolgaapiedbkfaaGreat
/-
  The contracts of bytes.Clone of nil, of record's known, head and Plain (an alert's two bytes), of server's copied and begin at the State of the start. No condition.
-/
namespace Go.Proofs.YtolgaapiedbkfaaGreat
open Go.RowKit Go.Kx
set_option linter.unusedVariables false
set_option linter.unusedSimpArgs false
set_option maxRecDepth 100000
theorem clone_n (w : World) : Calls Tryz.prog 38 #[.slice none 0 0] w fun e w' => e = .returned (.slice none 0 0) ∧ w' = w := by
  have hn : ∀ W, (binOp .eql 38 (.slice none 0 0) (.slice none 0 0)).run Tryz.prog W = .ok (.bool true) W := fun _ => rfl
  go_enter Tryz.func38, Tryz.ntmps38
  go_wp2
  go_ret
  exact ⟨rfl, rfl⟩
theorem known_c (k : Nat) (w : World) (h1 : 20 ≤ k) (h2 : k ≤ 23) : Calls Tryz.prog 159 #[.int .i64 (k : Int)] w fun e w' => e = .returned (.bool true) ∧ w' = w := by
  have k1 : (20 : Int) ≤ (k : Int) := by omega
  have k2 : (k : Int) ≤ 23 := by omega
  go_enter Tryz.func159, Tryz.ntmps159
  go_wp2
  go_ret
  exact ⟨rfl, rfl⟩
theorem known_21 (w : World) : Calls Tryz.prog 159 #[.int .i64 21] w fun e w' => e = .returned (.bool true) ∧ w' = w := known_c 21 w (by decide) (by decide)
theorem head_212 (w : World) : Calls Tryz.prog 160 #[.int .i64 21, .int .i64 2] w (NewOB w [21, 3, 3, 0, 2]) := by
  go_enter Tryz.func160, Tryz.ntmps160
  go_wp2
  go_ret
  have h := ArrB.new w 5 [21, 3, 3, 0, 2]
  exact ⟨_, 5, 5, rfl, OB.of_arr h rfl (by decide), fun k hk => by cases hk; exact Nat.le_refl _, (Below.refl _ w).alloc (Nat.le_refl _) _⟩
/-- What Plain tells of an alert. -/
def PlnR (w : World) (l : List UInt8) (e : Ending) (w' : World) : Prop := ∃ p n c, e = .returned (.tuple #[.slice p n c, .int .i64 0]) ∧ OB w' p n c l ∧ (∀ k, owB p n c k → w.heap.size ≤ k) ∧ Below w.heap.size w w'
theorem plain2_c (S : Nat → Prop) (q : Option Addr) (c : Nat) (b : List UInt8) (w : World) (hR : Rd w S q b) (hq : q = none → c = 0) (hb : b.length = 2) : Calls Tryz.prog 158 #[.int .i64 21, .slice q 2 c] w (PlnR w ([21, 3, 3, 0, 2] ++ b)) := by
  have H := Lib.hid (And.intro hR (And.intro hq hb))
  clear hR hq hb
  go_enter Tryz.func158, Tryz.ntmps158
  go_upto_region 3 with (go_at_call 159; apply Calls.mono; (· (with_reducible exact known_21 _)); rintro e w1 ⟨rfl, hw⟩; rw [hw]; clear hw w1)
  go_wp2_with (first
    | (go_at_call 160; apply Calls.mono; (· (with_reducible exact head_212 _)); rintro e w1 ⟨p1, n1, c1, rfl, h1, x1, b1⟩)
    | (at_builtin; refine wpList_app8 rfl _ _ rfl h1 rfl S q 2 c b rfl H.out.2.2 (H.out.1.below b1) H.out.2.1 (by have := H.out.2.2; simp; omega) ?_; intro p2 n2 c2 w2 h2 x2 hO2))
  go_ret2
  refine ⟨p2, n2, c2, rfl, h2, fun k hk => ?_, below_only b1 b1.size hO2 (fun k hk e => by have := x1 k e; omega)⟩
  rcases x2 k hk with h | h
  · exact x1 k h
  · have := b1.size; omega
theorem set_same (C : Array Value) (o : Nat) (v : Value) (h : C[o]? = some v) : C.setIfInBounds o v = C := by
  have ho := (Array.getElem?_eq_some_iff.1 h).1
  apply Array.ext_getElem?
  intro i
  by_cases e : o = i
  · subst e
    rw [Array.getElem?_setIfInBounds_self, h]
    simp [ho]
  · rw [Array.getElem?_setIfInBounds_ne e]
theorem nC_run (w : World) (r t : Nat) (h : w.heap[r]? = some (.cells nC t (0, 0))) : Blk w r t nC := h
set_option maxHeartbeats 4000000 in
theorem copied_c (w : World) : Calls Tryz.prog 54 #[.agg nC] w fun e w' => e = .returned (.agg nC) ∧ Below w.heap.size w w' := by
  have hz := run_zeroS
  go_enter Tryz.func54, Tryz.ntmps54
  go_upto_region 1 with (fail)
  refine wp_world (fun W => Blk W w.heap.size 71 nC ∧ Blk W (w.heap.size + 1) 71 zC ∧ Below w.heap.size w W) ?_ ?_
  · have b2 := Blk.new (w.alloc (.cells nC 71)) 71 zC
    rw [World.size_alloc] at b2
    exact ⟨(Blk.new w _ _).below ((Below.refl _ _).alloc (Nat.le_refl _) _), b2, ((Below.refl _ w).alloc (Nat.le_refl _) _).alloc (by simp) _⟩
  intro W hW
  have H := Lib.hid hW
  clear hW
  have e1 : nC[1]? = some (.slice none 0 0) := nC_ok.e1
  have e2 : nC[231]? = some (.slice none 0 0) := nC_ok.e231
  have e3 : nC[232]? = some (.slice none 0 0) := nC_ok.e232
  have E := Lib.hid (And.intro e1 (And.intro e2 e3))
  clear e1 e2 e3
  refine wp_region_tail (S := fun wx => Below W.heap.size W wx) (n := 10) (by kernel_rfl) (by decide) ?_
  try simp only [List.drop_succ_cons, List.drop_zero]
  obtain ⟨u0, hu0⟩ : ∃ u, u = W.drew := ⟨_, rfl⟩
  have hS : Below W.heap.size W u0 := by rw [hu0]; exact (Below.refl _ _).drew
  rw [← hu0]
  clear hu0
  try simp only [Act.put]
  refine wpAnyT_take (i := 0) (oi := _) (v := (.pointer (some ⟨w.heap.size, 1, none⟩))) rfl (by kernel_rfl) (fun _ _ _ h => h) (by kernel_rfl) (fun wq hq => by go_simp) hS ?_
  try simp only [List.getElem_toArray, List.getElem_cons_succ, List.getElem_cons_zero, Act.put, List.setIfInBounds_toArray, List.set_cons_zero, List.set_cons_succ]
  refine wpAnyT_take (i := 1) (oi := _) (v := (.slice none 0 0)) rfl (by kernel_rfl) (fun _ _ _ h => h) (by kernel_rfl) (fun wq hq => by have h : wq.cell? ⟨w.heap.size, 1, none⟩ = some (.slice none 0 0) := ((H.out.1.below hq).c 1).trans E.out.1; go_simp) hS ?_
  try simp only [List.getElem_toArray, List.getElem_cons_succ, List.getElem_cons_zero, Act.put, List.setIfInBounds_toArray, List.set_cons_zero, List.set_cons_succ]
  refine wpAnyT_take (i := 3) (oi := _) (v := (.pointer (some ⟨w.heap.size, 231, none⟩))) rfl (by kernel_rfl) (fun _ _ _ h => h) (by kernel_rfl) (fun wq hq => by go_simp) hS ?_
  try simp only [List.getElem_toArray, List.getElem_cons_succ, List.getElem_cons_zero, Act.put, List.setIfInBounds_toArray, List.set_cons_zero, List.set_cons_succ]
  refine wpAnyT_take (i := 4) (oi := _) (v := (.slice none 0 0)) rfl (by kernel_rfl) (fun _ _ _ h => h) (by kernel_rfl) (fun wq hq => by have h : wq.cell? ⟨w.heap.size, 231, none⟩ = some (.slice none 0 0) := ((H.out.1.below hq).c 231).trans E.out.2.1; go_simp) hS ?_
  try simp only [List.getElem_toArray, List.getElem_cons_succ, List.getElem_cons_zero, Act.put, List.setIfInBounds_toArray, List.set_cons_zero, List.set_cons_succ]
  refine wpAnyT_take (i := 6) (oi := _) (v := (.pointer (some ⟨w.heap.size, 232, none⟩))) rfl (by kernel_rfl) (fun _ _ _ h => h) (by kernel_rfl) (fun wq hq => by go_simp) hS ?_
  try simp only [List.getElem_toArray, List.getElem_cons_succ, List.getElem_cons_zero, Act.put, List.setIfInBounds_toArray, List.set_cons_zero, List.set_cons_succ]
  refine wpAnyT_take (i := 7) (oi := _) (v := (.slice none 0 0)) rfl (by kernel_rfl) (fun _ _ _ h => h) (by kernel_rfl) (fun wq hq => by have h : wq.cell? ⟨w.heap.size, 232, none⟩ = some (.slice none 0 0) := ((H.out.1.below hq).c 232).trans E.out.2.2; go_simp) hS ?_
  try simp only [List.getElem_toArray, List.getElem_cons_succ, List.getElem_cons_zero, Act.put, List.setIfInBounds_toArray, List.set_cons_zero, List.set_cons_succ]
  refine wpAnyT_ready (rs := [2]) (by kernel_rfl) (by simp) ?_
  refine AllReadyT.cons rfl (by decide) (fun K hC => ?_) AllReadyT.nil
  go_simp
  go_wp2_with (go_at_call 38; apply Calls.mono; (· (with_reducible exact clone_n _)); rintro e w1 ⟨rfl, hw⟩; rw [hw]; clear hw w1)
  refine hC.out _ _ hS ?_
  clear hC K
  try simp only [List.getElem_toArray, List.getElem_cons_succ, List.getElem_cons_zero, Act.put, List.setIfInBounds_toArray, List.set_cons_zero, List.set_cons_succ]
  refine wpAnyT_take (i := 9) (oi := _) (v := (.pointer (some ⟨w.heap.size, 1, none⟩))) rfl (by kernel_rfl) (fun _ _ _ h => h) (by kernel_rfl) (fun wq hq => by go_simp) hS ?_
  try simp only [List.getElem_toArray, List.getElem_cons_succ, List.getElem_cons_zero, Act.put, List.setIfInBounds_toArray, List.set_cons_zero, List.set_cons_succ]
  refine wpAnyT_ready (rs := [5]) (by kernel_rfl) (by simp) ?_
  refine AllReadyT.cons rfl (by decide) (fun K hC => ?_) AllReadyT.nil
  go_simp
  go_wp2_with (go_at_call 38; apply Calls.mono; (· (with_reducible exact clone_n _)); rintro e w1 ⟨rfl, hw⟩; rw [hw]; clear hw w1)
  refine hC.out _ _ hS ?_
  clear hC K
  try simp only [List.getElem_toArray, List.getElem_cons_succ, List.getElem_cons_zero, Act.put, List.setIfInBounds_toArray, List.set_cons_zero, List.set_cons_succ]
  refine wpAnyT_ready (rs := [8]) (by kernel_rfl) (by simp) ?_
  refine AllReadyT.cons rfl (by decide) (fun K hC => ?_) AllReadyT.nil
  go_simp
  go_wp2_with (go_at_call 38; apply Calls.mono; (· (with_reducible exact clone_n _)); rintro e w1 ⟨rfl, hw⟩; rw [hw]; clear hw w1)
  refine hC.out _ _ hS ?_
  clear hC K
  try simp only [List.getElem_toArray, List.getElem_cons_succ, List.getElem_cons_zero, Act.put, List.setIfInBounds_toArray, List.set_cons_zero, List.set_cons_succ]
  refine wpAnyT_tail (by kernel_rfl) ?_
  try simp only [List.getElem_toArray, List.getElem_cons_succ, List.getElem_cons_zero, Act.put, List.setIfInBounds_toArray, List.set_cons_zero, List.set_cons_succ]
  have hN := H.out.1.below hS
  have d1 : u0.cell? ⟨w.heap.size, 1, none⟩ = some (.slice none 0 0) := (hN.c 1).trans E.out.1
  have d2 : u0.cell? ⟨w.heap.size, 231, none⟩ = some (.slice none 0 0) := (hN.c 231).trans E.out.2.1
  have d3 : u0.cell? ⟨w.heap.size, 232, none⟩ = some (.slice none 0 0) := (hN.c 232).trans E.out.2.2
  have f1 := hN.fr 1
  have f2 := hN.fr 231
  have f3 := hN.fr 232
  go_upto_region 2 with (fail)
  refine wp_world (fun W2 => Blk W2 w.heap.size 71 nC ∧ Blk W2 (w.heap.size + 1) 71 zC ∧ Below w.heap.size w W2) ?_ ?_
  · have hst : ∀ {wx : World} (o : Nat) (v : Value), nC[o]? = some v → (Blk wx w.heap.size 71 nC ∧ Blk wx (w.heap.size + 1) 71 zC ∧ Below w.heap.size w wx) → (Blk (wx.setCell ⟨w.heap.size, o, none⟩ v) w.heap.size 71 nC ∧ Blk (wx.setCell ⟨w.heap.size, o, none⟩ v) (w.heap.size + 1) 71 zC ∧ Below w.heap.size w (wx.setCell ⟨w.heap.size, o, none⟩ v)) := fun {wx} o v hv h => by
      have ho : Only (fun x => x = w.heap.size) wx (wx.setCell ⟨w.heap.size, o, none⟩ v) := (Only.refl (fun x => x = w.heap.size) wx).setCell _ _ (.inl rfl)
      refine ⟨?_, h.2.1.only ho (by omega), below_only h.2.2 h.2.2.size ho (fun k hk e => by omega)⟩
      have h1 := h.1.set o v
      rwa [set_same nC o v hv] at h1
    exact hst 232 _ E.out.2.2 (hst 231 _ E.out.2.1 (hst 1 _ E.out.1 ⟨hN, H.out.2.1.below hS, H.out.2.2.trans (hS.mono H.out.2.2.size)⟩))
  intro W2 hW2
  have H2 := Lib.hid hW2
  clear hW2 d1 d2 d3 f1 f2 f3 hN hS
  go_wp2_with (first
    | (refine wpList_load_row rfl 71 (.tmp 1) rfl w.heap.size rfl _ _ (0, 0) _ H2.out.1 Tryz.underlying71 rfl (by rw [nC_size]; exact Tryz.infoS) ?_)
    | (refine wpList_store_row rfl 71 (.tmp 2) (.tmp 15) rfl (w.heap.size + 1) nC rfl rfl 71 zC H2.out.2.1 (by rw [nC_size]; exact Tryz.infoS) (by rw [nC_size, zC_size]) nC_one ?_))
  have hst := setRow_heap W2 (w.heap.size + 1) zC nC 71 (0, 0) H2.out.2.1
  refine bodyPost_ret (v := .agg nC) (results_cell_row rfl _ _ (w.heap.size + 1) 71 nC (0, 0) _ rfl hst Tryz.underlying71 rfl (by rw [nC_size]; exact Tryz.infoS)) rfl ⟨rfl, ?_⟩
  exact below_only H2.out.2.2 H2.out.2.2.size (only_setRowS (q := fun k => k = w.heap.size + 1) _ _ _ rfl) (by intro k hk e; omega)
end Go.Proofs.YtolgaapiedbkfaaGreat
/-
  The contracts of server's begin, plain, alert (close notify) at the State of the start. No condition but those that each theorem states.
-/
namespace Go.Proofs.YtolgaapiedbkfaaGreat
open Go.RowKit Go.Kx
set_option linter.unusedVariables false
set_option linter.unusedSimpArgs false
set_option maxRecDepth 100000
/-- What stands behind the State in a stepper's cells, ahead of what it sends. -/
def hdL : List Value := List.replicate 32 (.int .u8 0) ++ [.slice none 0 0, .slice none 0 0, .slice none 0 0] ++ List.replicate 64 (.int .u8 0)
theorem hdL_len : hdL.length = 99 := by decide +kernel
def tlL : List Value := [.slice none 0 0, .slice none 0 0, .slice none 0 0, .int .i64 0, .int .i64 0, .int .i64 0]
def spT (v : Value) : List Value := hdL ++ (v :: tlL)
def spV (C : Array Value) (v : Value) : Array Value := (C.toList ++ spT v).toArray
/-- The State of one that is closed. -/
def cC : Array Value := (nC.setIfInBounds 0 (.int .i64 4)).setIfInBounds 233 (.int .i64 0)
theorem cC_size : cC.size = 234 := by unfold cC; rw [Array.size_setIfInBounds, Array.size_setIfInBounds, nC_size]
theorem Tryz.builtSp : Tryz.prog.built 182 [(0, .agg nC), (2, .slice none 0 0)] = some (spV nC (.slice none 0 0)) := by kernel_rfl
theorem run_buildSp (w : World) : (Instr.build 182 #[(0, .agg nC), (2, .slice none 0 0)]).run Tryz.prog w = .ok (.agg (spV nC (.slice none 0 0))) w := run_build w _ _ _ Tryz.builtSp
def BgnR (w : World) (e : Ending) (w' : World) : Prop := ∃ s, e = .returned (rp s) ∧ Blk w' s 182 (spV nC (.slice none 0 0)) ∧ w.heap.size ≤ s ∧ Below w.heap.size w w'
set_option maxHeartbeats 4000000 in
theorem begin_c (w : World) : Calls Tryz.prog 55 #[.agg nC, .slice none 0 0] w (BgnR w) := by
  have hb := Tryz.builtSp
  have hns := nC_size
  have hio : (Tryz.prog.info? 71).map (·.size) = some nC.size := by rw [nC_size]; exact Tryz.infoS
  have hcp : ∀ wx, Calls Tryz.prog 54 #[.agg nC] wx fun e w' => e = .returned (.agg nC) ∧ Below wx.heap.size wx w' := copied_c
  have hgoal : ∀ (SP : Array Value), SP = spV nC (.slice none 0 0) → ∀ e w', (∃ s, e = Ending.returned (rp s) ∧ Blk w' s 182 SP ∧ w.heap.size ≤ s ∧ Below w.heap.size w w') → BgnR w e w' := fun SP h e w' hh => by subst h; exact hh
  obtain ⟨SP, hSP⟩ : ∃ SP, SP = spV nC (.slice none 0 0) := ⟨_, rfl⟩
  rw [← hSP] at hb
  refine Calls.mono ?_ (hgoal SP hSP)
  clear hgoal hSP
  generalize nC = NC at *
  have H1 := Blk.new w 71 NC
  have b1 : Below w.heap.size w (w.alloc (.cells NC 71)) := (Below.refl _ w).alloc (Nat.le_refl _) _
  go_enter Tryz.func55, Tryz.ntmps55
  go_wp2_with (first
    | (refine wpList_load_row rfl 71 (.tmp 2) rfl w.heap.size rfl _ _ (0, 0) _ H1 Tryz.underlying71 rfl hio ?_)
    | (go_at_call 54; apply Calls.mono; (· (with_reducible exact hcp _)); rintro e w2 ⟨rfl, b2⟩)
    | (refine wpList_build_eq rfl 182 _ rfl (C := SP) (l := [(0, .agg NC), (2, .slice none 0 0)]) (by simp [Act.eval]) hb ?_))
  go_ret
  have hB2 := b1.trans (b2.mono b1.size)
  exact ⟨w2.heap.size, rfl, Blk.new _ _ _, hB2.size, hB2.alloc hB2.size _⟩
theorem spV_get (C : Array Value) (v : Value) (h : C.size = 234) (k : Nat) : (spV C v)[234 + k]? = (spT v)[k]? := by
  unfold spV
  rw [List.getElem?_toArray, List.getElem?_append_right (by simp [h])]
  congr 1
  simp [h]
theorem spV_low (C : Array Value) (v : Value) (k : Nat) (h : k < C.size) : (spV C v)[k]? = C[k]? := by
  unfold spV
  rw [List.getElem?_toArray, List.getElem?_append_left (by simpa using h)]
  simp
theorem spV_set (C : Array Value) (v v' : Value) (h : C.size = 234) : (spV C v).setIfInBounds 333 v' = spV C v' := by
  apply Array.ext_getElem?
  intro i
  by_cases e : 333 = i
  · subst e
    have hs : 333 < (spV C v).size := by simp [spV, spT, h, hdL_len, tlL]
    rw [Array.getElem?_setIfInBounds_self]
    rw [show 333 = 234 + 99 by rfl, spV_get C v' h]
    simp [hs, spT, hdL_len]
  · rw [Array.getElem?_setIfInBounds_ne e]
    by_cases hl : i < 234
    · rw [spV_low _ _ _ (by omega), spV_low _ _ _ (by omega)]
    · obtain ⟨k, rfl⟩ : ∃ k, i = 234 + k := ⟨i - 234, by omega⟩
      rw [spV_get C v h, spV_get C v' h]
      have hk : k ≠ 99 := by omega
      unfold spT
      by_cases h99 : k < 99
      · rw [List.getElem?_append_left (by rw [hdL_len]; omega), List.getElem?_append_left (by rw [hdL_len]; omega)]
      · rw [List.getElem?_append_right (by rw [hdL_len]; omega), List.getElem?_append_right (by rw [hdL_len]; omega)]
        obtain ⟨m, hm⟩ : ∃ m, k - hdL.length = m + 1 := ⟨k - 100, by rw [hdL_len]; omega⟩
        rw [hm]
        simp
theorem spV_setC (C : Array Value) (v x : Value) (o : Nat) (h : o < C.size) : (spV C v).setIfInBounds o x = spV (C.setIfInBounds o x) v := by
  unfold spV
  apply Array.ext_getElem?
  intro i
  by_cases e : o = i
  · subst e
    rw [Array.getElem?_setIfInBounds_self, List.getElem?_toArray, List.getElem?_append_left (by simpa using h)]
    have hs : o < (C.toList ++ spT v).toArray.size := by simp; omega
    simp only [hs, if_true]
    simp [h]
  · rw [Array.getElem?_setIfInBounds_ne e, List.getElem?_toArray, List.getElem?_toArray]
    by_cases hl : i < C.size
    · rw [List.getElem?_append_left (by simpa using hl), List.getElem?_append_left (by simpa using hl)]
      simp [e]
    · rw [List.getElem?_append_right (by simp; omega), List.getElem?_append_right (by simp; omega)]
      simp
def PlR (w : World) (s : Nat) (C : Array Value) (e : Ending) (w' : World) : Prop := ∃ p c, e = .returned (.tuple #[]) ∧ Blk w' s 182 (spV C (.slice p 7 c)) ∧ Only (fun x => x = s) w w'
set_option maxHeartbeats 4000000 in
theorem splain_c (s c : Nat) (S : Nat → Prop) (q : Option Addr) (b : List UInt8) (w : World) (h : Blk w s 182 (spV nC (.slice none 0 0))) (hR : Rd w S q b) (hq : q = none → c = 0) (hb : b.length = 2) : Calls Tryz.prog 138 #[rp s, .int .i64 21, .slice q 2 c] w (PlR w s nC) := by
  have H := Lib.hid (And.intro h (And.intro hR (And.intro hq hb)))
  clear h hR hq hb
  have hg : (spV nC (.slice none 0 0))[333]? = some (.slice none 0 0) := (spV_get nC (.slice none 0 0) nC_size 99).trans rfl
  have HG := Lib.hid hg
  clear hg
  go_enter Tryz.func138, Tryz.ntmps138
  go_upto_region 1 with (go_at_call 158; apply Calls.mono; (· (with_reducible refine plain2_c S q c b _ ?_ ?_ ?_); (· exact H.out.2.1); (· exact H.out.2.2.1); (· exact H.out.2.2.2)); rintro e w1 ⟨p1, n1, c1, rfl, h1, x1, b1⟩)
  have hblk := H.out.1.below b1
  have d1 : w1.cell? ⟨s, 333, none⟩ = some (.slice none 0 0) := (hblk.c 333).trans HG.out
  have f1 := hblk.fr 333
  have hn : OB w1 none 0 0 [] := OB.nil _
  go_wp2_with (at_builtin; refine wpList_app8 rfl _ _ rfl hn rfl (fun k => owB p1 n1 c1 k) p1 n1 c1 ([21, 3, 3, 0, 2] ++ b) rfl h1.len h1.rd h1.nilc (by have := H.out.2.2.2; simp; omega) ?_; rw [List.nil_append]; intro p2 n2 c2 w2 h2 x2 hO2; have hblk2 := hblk.only hO2 (fun e => by cases e); have f2 := hblk2.fr 333; have d2 : w2.cell? ⟨s, 333, none⟩ = some (.slice none 0 0) := (hblk2.c 333).trans HG.out)
  have hn2 := h2.len
  have hn7 : n2 = 7 := by rw [← hn2]; simp [H.out.2.2.2]
  subst hn7
  have ho3 : Only (fun x => x = s) w2 (w2.setCell ⟨s, 333, none⟩ (.slice p2 7 c2)) := (Only.refl (fun x => x = s) w2).setCell _ _ (.inl rfl)
  have hb3 := hblk2.set 333 (.slice p2 7 c2)
  rw [spV_set _ _ _ nC_size] at hb3
  go_end0
  exact ⟨p2, c2, rfl, hb3, ((Only.of_below b1).then (hO2.mono (fun k _ e => by cases e))).then ho3⟩
/-- What alert tells. -/
def AlR (w : World) (s : Nat) (e : Ending) (w' : World) : Prop := ∃ p c, e = .returned (.tuple #[]) ∧ Blk w' s 182 (spV cC (.slice p 7 c)) ∧ Only (fun x => x = s) w w'
set_option maxHeartbeats 4000000 in
theorem alert_c (s : Nat) (w : World) (h : Blk w s 182 (spV nC (.slice none 0 0))) : Calls Tryz.prog 102 #[rp s, .int .i64 0] w (AlR w s) := by
  have hg : (spV nC (.slice none 0 0))[229]? = some (.int .i64 0) := (spV_low _ _ _ (by rw [nC_size]; decide)).trans nC_ok.e229
  have H := Lib.hid (And.intro h hg)
  clear h hg
  have hba : ∀ o, Below w.heap.size w (w.alloc o) := fun o => (Below.refl _ w).alloc (Nat.le_refl _) _
  have d1 : ∀ o, (w.alloc o).cell? ⟨s, 229, none⟩ = some (.int .i64 0) := fun o => ((H.out.1.below (hba o)).c 229).trans H.out.2
  go_enter Tryz.func102, Tryz.ntmps102
  go_upto_region 7 with (go_at_call 138; apply Calls.mono; (· (with_reducible refine splain_c s 2 (fun x => x = w.heap.size) (some ⟨w.heap.size, 0, none⟩) [1, 0] _ ?_ ?_ ?_ ?_); (· exact H.out.1.below (hba _)); (· exact Rd.lit w [1, 0]); (· intro e; cases e); (· rfl)); rintro e w2 ⟨p2, c2, rfl, h2, hO2⟩)
  have e0 : (spV nC (.slice p2 7 c2))[0]? = some (.int .i64 0) := (spV_low _ _ _ (by rw [nC_size]; decide)).trans nC_ok.e0
  have e233 : (spV nC (.slice p2 7 c2))[233]? = some (.int .i64 (-1)) := (spV_low _ _ _ (by rw [nC_size]; decide)).trans nC_ok.e233
  have d0 : w2.cell? ⟨s, 0, none⟩ = some (.int .i64 0) := (h2.c 0).trans e0
  have d3 : w2.cell? ⟨s, 233, none⟩ = some (.int .i64 (-1)) := (h2.c 233).trans e233
  have f0 := h2.fr 0
  have f3 := h2.fr 233
  have hb := (h2.set 0 (.int .i64 4)).set 233 (.int .i64 0)
  rw [spV_setC _ _ _ _ (by rw [nC_size]; decide), spV_setC _ _ _ _ (by rw [Array.size_setIfInBounds, nC_size]; decide)] at hb
  have ho : Only (fun x => x = s) w2 ((w2.setCell ⟨s, 0, none⟩ (.int .i64 4)).setCell ⟨s, 233, none⟩ (.int .i64 0)) := ((Only.refl (fun x => x = s) w2).setCell _ _ (.inl rfl)).setCell _ _ (.inl rfl)
  go_wp2
  go_end0
  exact ⟨p2, c2, rfl, hb, ((Only.of_below (hba _)).then hO2).then ho⟩
end Go.Proofs.YtolgaapiedbkfaaGreat
/-
  The contracts of server's end, Fail and Close at the State of the start. No condition but those that each theorem states.
-/
namespace Go.Proofs.YtolgaapiedbkfaaGreat
open Go.RowKit Go.Kx
set_option linter.unusedVariables false
set_option linter.unusedSimpArgs false
set_option maxRecDepth 100000
/-- What a step did: it sends this. -/
def diD (v : Value) : Array Value := (v :: tlL.take 5).toArray
theorem results_cct {P : Program} {fn : Func} (p q u : Tmp) {ty ty2 : TypeId} (h : fn.results = #[.cell p ty, .cell q ty2, .tmp u]) (tmps : Array Value) (w : World) (g g2 : Nat) (t t2 : TypeId) (cs cs2 : Array Value) (d d2 : TypeDesc) (U : Value)
    (hp : tmps.getD p undef = .pointer (some ⟨g, 0, none⟩)) (hq : tmps.getD q undef = .pointer (some ⟨g2, 0, none⟩)) (hU : tmps.getD u undef = U) (hg : Blk w g t cs) (hg2 : Blk w g2 t2 cs2)
    (hu : P.underlying ty = some d) (hd : (match d with | .struct _ | .array _ _ => true | _ => false) = true) (hi : (P.info? ty).map (·.size) = some cs.size)
    (hu2 : P.underlying ty2 = some d2) (hd2 : (match d2 with | .struct _ | .array _ _ => true | _ => false) = true) (hi2 : (P.info? ty2).map (·.size) = some cs2.size) :
    (results fn tmps).run P w = .ok (.tuple #[.agg cs, .agg cs2, U]) w := by
  subst hU
  have hp' : tmps[p]?.getD undef = .pointer (some ⟨g, 0, none⟩) := by simpa using hp
  have hq' : tmps[q]?.getD undef = .pointer (some ⟨g2, 0, none⟩) := by simpa using hq
  simp [results, h, hp', hq', asAddr, run_loadVar_row w g t ty cs (0, 0) d hg hu hd hi, run_loadVar_row w g2 t2 ty2 cs2 (0, 0) d2 hg2 hu2 hd2 hi2]
theorem Tryz.zeroDid : (Tryz.prog.info? 79).map (fun i => (i.zero, i.size)) = some (some (.agg (diD (.slice none 0 0))), 6) := by kernel_rfl
theorem Tryz.infoDid : (Tryz.prog.info? 79).map (·.size) = some 6 := by kernel_rfl
theorem run_zeroDid (w : World) : (zeroValue 79).run Tryz.prog w = .ok (.agg (diD (.slice none 0 0))) w := (zero_of_info Tryz.zeroDid).1 w
theorem spV_range0 {w : World} {s t : Nat} {C : Array Value} {v : Value} (h : Blk w s t (spV C v)) : w.rangeAt s 0 C.toList := fun j x hx => by
  have hj : j < C.size := by have := (List.getElem?_eq_some_iff.1 hx).1; simpa using this
  rw [Nat.zero_add, h.c j, spV_low C v j hj]
  simpa using hx
theorem spV_range333 {w : World} {s t : Nat} {C : Array Value} {v : Value} (hC : C.size = 234) (h : Blk w s t (spV C v)) : w.rangeAt s 333 (diD v).toList := fun j x hx => by
  have hj : j < 6 := by have := (List.getElem?_eq_some_iff.1 hx).1; simpa [diD, tlL] using this
  rw [show 333 + j = 234 + (99 + j) by omega, h.c, spV_get C v hC, spT, List.getElem?_append_right (by rw [hdL_len]; omega), hdL_len, Nat.add_sub_cancel_left]
  have h1 : (diD v).toList = v :: tlL.take 5 := rfl
  rw [h1] at hx
  rw [← hx]
  have : j = 0 ∨ j = 1 ∨ j = 2 ∨ j = 3 ∨ j = 4 ∨ j = 5 := by omega
  rcases this with rfl | rfl | rfl | rfl | rfl | rfl <;> rfl
theorem ex_load_mid {op : Oper} {a : Act} {w : World} (ty : TypeId) (x : Operand) (ho : op.op = .load ty x) (b o : Nat) (hx : a.eval x = .pointer (some ⟨b, o, none⟩)) (C : Array Value) (d : TypeDesc) (hc : w.rangeAt b o C.toList)
    (hu : Tryz.prog.underlying ty = some d) (hd : d.isRow = true) (hi : (Tryz.prog.info? ty).map (·.size) = some C.size) : (execOp a.eval op).run Tryz.prog w = .ok (.value (.agg C)) w := by
  have h := run_loadVar_mid (P := Tryz.prog) w b o ty C.toList d hc hu hd (by simpa using hi)
  unfold execOp
  simp [ho, hx, Instr.loadAt, Instr.sureAddr, Sem.run_bind, Sem.run_pure, Result.andThen_ok, h]
theorem cC_one : cC.all (·.oneCell') = true := by decide +kernel
theorem diD_one (v : Value) (hv : v.oneCell' = true) : (diD v).all (·.oneCell') = true := by
  have h2 : (Value.slice none 0 0).oneCell' = true := rfl
  have h3 : (Value.int .i64 0).oneCell' = true := rfl
  simp [diD, tlL, hv, h2, h3]
/-- What end tells. -/
def EdR (w : World) (v : Value) (e : Ending) (w' : World) : Prop := e = .returned (.tuple #[.agg cC, .agg (diD v), .int .i64 0]) ∧ Below w.heap.size w w'
set_option maxHeartbeats 4000000 in
theorem end_c (s : Nat) (v : Value) (w : World) (h : Blk w s 182 (spV cC v)) (hv : v.oneCell' = true) : Calls Tryz.prog 57 #[rp s, .agg nC] w (EdR w v) := by
  have hz := run_zeroS
  have hz2 := run_zeroDid
  have hg : (spV cC v)[339]? = some (.int .i64 0) := by rw [show 339 = 234 + 105 by rfl, spV_get _ _ cC_size]; unfold spT; rw [List.getElem?_append_right (by rw [hdL_len]; omega), hdL_len]; rfl
  have H := Lib.hid (And.intro h (And.intro hg hv))
  clear h hg hv
  go_enter Tryz.func57, Tryz.ntmps57
  go_upto_region 1 with (fail)
  refine wp_world (fun W => Blk W s 182 (spV cC v) ∧ Blk W (w.heap.size + 1) 71 zC ∧ Blk W (w.heap.size + 1 + 1) 79 (diD (.slice none 0 0)) ∧ Below w.heap.size w W) ?_ ?_
  · have b1 : Below w.heap.size w (((w.alloc (.cells nC 71)).alloc (.cells zC 71)).alloc (.cells (diD (.slice none 0 0)) 79)) := (((Below.refl _ w).alloc (Nat.le_refl _) _).alloc (by simp) _).alloc (by simp; omega) _
    have b2 := Blk.new (w.alloc (.cells nC 71)) 71 zC
    have b3 := Blk.new ((w.alloc (.cells nC 71)).alloc (.cells zC 71)) 79 (diD (.slice none 0 0))
    simp only [World.size_alloc] at b2 b3
    exact ⟨H.out.1.below b1, b2.below ((Below.refl _ _).alloc (Nat.le_refl _) _), b3, b1⟩
  intro W hW
  have HW := Lib.hid hW
  have hsl := H.out.1.lt
  clear hW
  have d0 : W.cell? ⟨s, 339, none⟩ = some (.int .i64 0) := (HW.out.1.c 339).trans H.out.2.1
  go_upto_region 3 with (fail)
  clear d0
  refine wp_region_tail (S := fun wx => Blk wx s 182 (spV cC v) ∧ Blk wx (w.heap.size + 1 + 1) 79 (diD (.slice none 0 0)) ∧ Below w.heap.size w wx) (n := 9) (by kernel_rfl) (by decide) ?_
  try simp only [List.drop_succ_cons, List.drop_zero]
  obtain ⟨u0, hu0⟩ : ∃ u, u = W.drew := ⟨_, rfl⟩
  have hb0 : Below W.heap.size W u0 := by rw [hu0]; exact (Below.refl _ _).drew
  have hS : Blk u0 s 182 (spV cC v) ∧ Blk u0 (w.heap.size + 1 + 1) 79 (diD (.slice none 0 0)) ∧ Below w.heap.size w u0 := ⟨HW.out.1.below hb0, HW.out.2.2.1.below hb0, HW.out.2.2.2.trans (hb0.mono HW.out.2.2.2.size)⟩
  have hz0 := HW.out.2.1.below hb0
  rw [← hu0]
  clear hu0
  try simp only [Act.put]
  refine wpAnyT_take (i := 0) (oi := _) (v := (rp s)) rfl (by kernel_rfl) (fun _ _ _ h => h) (by kernel_rfl) (fun wq hq => rfl) hS ?_
  try simp only [List.getElem_toArray, List.getElem_cons_succ, List.getElem_cons_zero, Act.put, List.setIfInBounds_toArray, List.set_cons_zero, List.set_cons_succ]
  refine wpAnyT_take (i := 1) (oi := _) (v := (rp s)) rfl (by kernel_rfl) (fun _ _ _ h => h) (by kernel_rfl) (fun wq hq => rfl) hS ?_
  try simp only [List.getElem_toArray, List.getElem_cons_succ, List.getElem_cons_zero, Act.put, List.setIfInBounds_toArray, List.set_cons_zero, List.set_cons_succ]
  refine wpAnyT_take (i := 2) (oi := _) (v := (rp s)) rfl (by kernel_rfl) (fun _ _ _ h => h) (by kernel_rfl) (fun wq hq => by go_simp) hS ?_
  try simp only [List.getElem_toArray, List.getElem_cons_succ, List.getElem_cons_zero, Act.put, List.setIfInBounds_toArray, List.set_cons_zero, List.set_cons_succ]
  refine wpAnyT_take (i := 3) (oi := _) (v := (.agg cC)) rfl (by kernel_rfl) (fun _ _ _ h => h) (by kernel_rfl) (fun wq hq => ex_load_mid 71 (.tmp 16) rfl s 0 rfl cC _ (spV_range0 hq.1) Tryz.underlying71 rfl (by rw [cC_size]; exact Tryz.infoS)) hS ?_
  try simp only [List.getElem_toArray, List.getElem_cons_succ, List.getElem_cons_zero, Act.put, List.setIfInBounds_toArray, List.set_cons_zero, List.set_cons_succ]
  refine wpAnyT_take (i := 4) (oi := _) (v := (rp s)) rfl (by kernel_rfl) (fun _ _ _ h => h) (by kernel_rfl) (fun wq hq => rfl) hS ?_
  try simp only [List.getElem_toArray, List.getElem_cons_succ, List.getElem_cons_zero, Act.put, List.setIfInBounds_toArray, List.set_cons_zero, List.set_cons_succ]
  refine wpAnyT_take (i := 5) (oi := _) (v := (rp s)) rfl (by kernel_rfl) (fun _ _ _ h => h) (by kernel_rfl) (fun wq hq => rfl) hS ?_
  try simp only [List.getElem_toArray, List.getElem_cons_succ, List.getElem_cons_zero, Act.put, List.setIfInBounds_toArray, List.set_cons_zero, List.set_cons_succ]
  refine wpAnyT_take (i := 6) (oi := _) (v := (.pointer (some ⟨s, 333, none⟩))) rfl (by kernel_rfl) (fun _ _ _ h => h) (by kernel_rfl) (fun wq hq => by go_simp) hS ?_
  try simp only [List.getElem_toArray, List.getElem_cons_succ, List.getElem_cons_zero, Act.put, List.setIfInBounds_toArray, List.set_cons_zero, List.set_cons_succ]
  refine wpAnyT_take (i := 7) (oi := _) (v := (.agg (diD v))) rfl (by kernel_rfl) (fun _ _ _ h => h) (by kernel_rfl) (fun wq hq => ex_load_mid 79 (.tmp 20) rfl s 333 rfl (diD v) _ (spV_range333 cC_size hq.1) Tryz.underlying79 rfl Tryz.infoDid) hS ?_
  try simp only [List.getElem_toArray, List.getElem_cons_succ, List.getElem_cons_zero, Act.put, List.setIfInBounds_toArray, List.set_cons_zero, List.set_cons_succ]
  refine wpAnyT_ready (rs := [8]) (by kernel_rfl) (by simp) ?_
  refine AllReadyT.cons rfl (by decide) (fun K hC => ?_) AllReadyT.nil
  rw [if_pos (by kernel_rfl)]
  refine wp_store_row 71 (.tmp 4) (.tmp 17) rfl (w.heap.size + 1) cC rfl rfl 71 zC hz0 (by rw [cC_size]; exact Tryz.infoS) (by rw [cC_size, zC_size]) cC_one ?_
  have ho1 : Only (fun x => x = w.heap.size + 1) u0 (u0.setRow (w.heap.size + 1) cC) := only_setRowS (q := fun k => k = w.heap.size + 1) _ _ _ rfl
  have hz1 : Blk (u0.setRow (w.heap.size + 1) cC) (w.heap.size + 1) 71 cC := setRow_heap u0 (w.heap.size + 1) zC cC 71 (0, 0) hz0
  have hS1 : Blk (u0.setRow (w.heap.size + 1) cC) s 182 (spV cC v) ∧ Blk (u0.setRow (w.heap.size + 1) cC) (w.heap.size + 1 + 1) 79 (diD (.slice none 0 0)) ∧ Below w.heap.size w (u0.setRow (w.heap.size + 1) cC) := ⟨hS.1.only ho1 (by omega), hS.2.1.only ho1 (by omega), below_only hS.2.2 hS.2.2.size ho1 (fun k hk e => by omega)⟩
  refine hC.out _ _ hS1 ?_
  clear hC K ho1 hS hz0 hb0
  try simp only [List.getElem_toArray, List.getElem_cons_succ, List.getElem_cons_zero, Act.put, List.setIfInBounds_toArray, List.set_cons_zero, List.set_cons_succ]
  generalize u0.setRow (w.heap.size + 1) cC = u1 at *
  refine wpAnyT_tail (by kernel_rfl) ?_
  try simp only [List.getElem_toArray, List.getElem_cons_succ, List.getElem_cons_zero, Act.put, List.setIfInBounds_toArray, List.set_cons_zero, List.set_cons_succ]
  go_wp2_with (refine wpList_store_row rfl 79 (.tmp 5) (.tmp 21) rfl (w.heap.size + 1 + 1) (diD v) rfl rfl 79 (diD (.slice none 0 0)) hS1.2.1 Tryz.infoDid rfl (diD_one v H.out.2.2) ?_)
  have ho2 : Only (fun x => x = w.heap.size + 1 + 1) u1 (u1.setRow (w.heap.size + 1 + 1) (diD v)) := only_setRowS (q := fun k => k = w.heap.size + 1 + 1) _ _ _ rfl
  have hd2 : Blk (u1.setRow (w.heap.size + 1 + 1) (diD v)) (w.heap.size + 1 + 1) 79 (diD v) := setRow_heap u1 (w.heap.size + 1 + 1) _ (diD v) 79 (0, 0) hS1.2.1
  refine bodyPost_ret (v := .tuple #[.agg cC, .agg (diD v), .int .i64 0]) (results_cct (P := Tryz.prog) 4 5 6 Tryz.results57 _ _ (w.heap.size + 1) (w.heap.size + 1 + 1) _ _ cC (diD v) _ _ (.int .i64 0) rfl rfl rfl (hz1.only ho2 (by omega)) hd2 Tryz.underlying71 rfl (by rw [cC_size]; exact Tryz.infoS) Tryz.underlying79 rfl Tryz.infoDid) rfl ⟨rfl, below_only hS1.2.2 hS1.2.2.size ho2 (fun k hk e => by omega)⟩
/-- What Fail and Close tell. -/
def ClR (w : World) (e : Ending) (w' : World) : Prop := ∃ p c, e = .returned (.tuple #[.agg cC, .agg (diD (.slice p 7 c)), .int .i64 0]) ∧ Below w.heap.size w w'
set_option maxHeartbeats 4000000 in
theorem sfail_c (w : World) : Calls Tryz.prog 53 #[.agg nC, .slice none 0 0, .int .i64 0] w (ClR w) := by
  have hz := run_zeroS
  have hz2 := run_zeroDid
  have e0 : nC[0]? = some (.int .i64 0) := nC_ok.e0
  go_enter Tryz.func53, Tryz.ntmps53
  go_upto_region 1 with (fail)
  refine wp_world (fun W => Blk W w.heap.size 71 nC ∧ Blk W (w.heap.size + 1) 71 zC ∧ Blk W (w.heap.size + 1 + 1) 79 (diD (.slice none 0 0)) ∧ Below w.heap.size w W) ?_ ?_
  · have b1 : Below w.heap.size w (((w.alloc (.cells nC 71)).alloc (.cells zC 71)).alloc (.cells (diD (.slice none 0 0)) 79)) := (((Below.refl _ w).alloc (Nat.le_refl _) _).alloc (by simp) _).alloc (by simp; omega) _
    have b0 := Blk.new w 71 nC
    have b2 := Blk.new (w.alloc (.cells nC 71)) 71 zC
    have b3 := Blk.new ((w.alloc (.cells nC 71)).alloc (.cells zC 71)) 79 (diD (.slice none 0 0))
    simp only [World.size_alloc] at b2 b3
    exact ⟨(b0.below ((Below.refl _ _).alloc (Nat.le_refl _) _)).below ((Below.refl _ _).alloc (Nat.le_refl _) _), b2.below ((Below.refl _ _).alloc (Nat.le_refl _) _), b3, b1⟩
  intro W hW
  have HW := Lib.hid hW
  clear hW
  have d0 : W.cell? ⟨w.heap.size, 0, none⟩ = some (.int .i64 0) := (HW.out.1.c 0).trans e0
  go_upto_region 5 with (fail)
  clear d0
  have hnS : (Tryz.prog.info? 71).map (·.size) = some nC.size := by rw [nC_size]; exact Tryz.infoS
  go_upto_region 6 with (first
    | (refine wpList_load_row rfl 71 (.tmp 3) rfl w.heap.size rfl _ _ (0, 0) _ HW.out.1 Tryz.underlying71 rfl hnS ?_)
    | (go_at_call 55; apply Calls.mono; (· (with_reducible exact begin_c _)); rintro e w2 ⟨s, rfl, h2, hs2, b2⟩))
  go_upto_region 7 with (go_at_call 102; apply Calls.mono; (· (with_reducible refine alert_c s _ ?_); (· exact h2)); rintro e w3 ⟨p3, c3, rfl, h3, hO3⟩)
  have hk : ∀ x, x < w2.heap.size → x < W.heap.size → ¬ (x = s) := fun x _ h e => by omega
  have hlW := HW.out.2.2.1.lt
  have hlW2 := HW.out.2.1.lt
  have hl3 := ((HW.out.1.below b2).only hO3 (by omega))
  have hz3 := ((HW.out.2.1.below b2).only hO3 (by omega))
  have hd3 := ((HW.out.2.2.1.below b2).only hO3 (by omega))
  have hB3 := below_only (HW.out.2.2.2.trans (b2.mono HW.out.2.2.2.size)) (Nat.le_trans HW.out.2.2.2.size b2.size) hO3 (fun k hk e => by have := HW.out.2.2.2.size; omega)
  have H3 := Lib.hid (And.intro hl3 (And.intro hz3 (And.intro hd3 (And.intro hB3 h3))))
  clear hl3 hz3 hd3 hB3 h3 hO3 h2 b2
  go_wp2_with (first
    | (refine wpList_load_row rfl 71 (.tmp 3) rfl w.heap.size rfl _ _ (0, 0) _ H3.out.1 Tryz.underlying71 rfl hnS ?_)
    | (go_at_call 57; apply Calls.mono; (· (with_reducible refine end_c s (.slice p3 7 c3) _ ?_ ?_); (· exact H3.out.2.2.2.2); (· rfl)); rintro e w4 ⟨rfl, b4⟩; have hz4 := H3.out.2.1.below b4; have hd4 := H3.out.2.2.1.below b4)
    | (refine wpList_store_row rfl 71 (.tmp 6) (.tmp 36) rfl (w.heap.size + 1) cC rfl rfl 71 zC hz4 (by rw [cC_size]; exact Tryz.infoS) (by rw [cC_size, zC_size]) cC_one ?_; have ho5 : Only (fun x => x = w.heap.size + 1) w4 (w4.setRow (w.heap.size + 1) cC) := only_setRowS (q := fun k => k = w.heap.size + 1) _ _ _ rfl; have hz5 : Blk (w4.setRow (w.heap.size + 1) cC) (w.heap.size + 1) 71 cC := setRow_heap w4 (w.heap.size + 1) zC cC 71 (0, 0) hz4; have hd5 := hd4.only ho5 (by omega))
    | (refine wpList_store_row rfl 79 (.tmp 7) (.tmp 37) rfl (w.heap.size + 1 + 1) (diD (.slice p3 7 c3)) rfl rfl 79 (diD (.slice none 0 0)) hd5 Tryz.infoDid rfl (diD_one _ rfl) ?_))
  have ho6 : Only (fun x => x = w.heap.size + 1 + 1) (w4.setRow (w.heap.size + 1) cC) ((w4.setRow (w.heap.size + 1) cC).setRow (w.heap.size + 1 + 1) (diD (.slice p3 7 c3))) := only_setRowS (q := fun k => k = w.heap.size + 1 + 1) _ _ _ rfl
  have hd6 : Blk ((w4.setRow (w.heap.size + 1) cC).setRow (w.heap.size + 1 + 1) (diD (.slice p3 7 c3))) (w.heap.size + 1 + 1) 79 (diD (.slice p3 7 c3)) := setRow_heap _ (w.heap.size + 1 + 1) _ (diD (.slice p3 7 c3)) 79 (0, 0) hd5
  have hB4 := H3.out.2.2.2.1.trans (b4.mono H3.out.2.2.2.1.size)
  have hB5 := below_only hB4 hB4.size ho5 (fun k hk e => by omega)
  refine bodyPost_ret (v := .tuple #[.agg cC, .agg (diD (.slice p3 7 c3)), .int .i64 0]) (results_cct (P := Tryz.prog) 6 7 8 Tryz.results53 _ _ (w.heap.size + 1) (w.heap.size + 1 + 1) _ _ cC (diD (.slice p3 7 c3)) _ _ (.int .i64 0) rfl rfl rfl (hz5.only ho6 (by omega)) hd6 Tryz.underlying71 rfl (by rw [cC_size]; exact Tryz.infoS) Tryz.underlying79 rfl Tryz.infoDid) rfl ⟨p3, c3, rfl, below_only hB5 hB5.size ho6 (fun k hk e => by omega)⟩
set_option maxHeartbeats 4000000 in
theorem sclose_c (w : World) : Calls Tryz.prog 24 #[.agg nC, .slice none 0 0] w (ClR w) := by
  have hz := run_zeroS
  have hz2 := run_zeroDid
  have hnS : (Tryz.prog.info? 71).map (·.size) = some nC.size := by rw [nC_size]; exact Tryz.infoS
  go_enter Tryz.func24, Tryz.ntmps24
  go_upto_region 1 with (fail)
  refine wp_world (fun W => Blk W w.heap.size 71 nC ∧ Blk W (w.heap.size + 1) 71 zC ∧ Blk W (w.heap.size + 1 + 1) 79 (diD (.slice none 0 0)) ∧ Below w.heap.size w W) ?_ ?_
  · have b1 : Below w.heap.size w (((w.alloc (.cells nC 71)).alloc (.cells zC 71)).alloc (.cells (diD (.slice none 0 0)) 79)) := (((Below.refl _ w).alloc (Nat.le_refl _) _).alloc (by simp) _).alloc (by simp; omega) _
    have b0 := Blk.new w 71 nC
    have b2 := Blk.new (w.alloc (.cells nC 71)) 71 zC
    have b3 := Blk.new ((w.alloc (.cells nC 71)).alloc (.cells zC 71)) 79 (diD (.slice none 0 0))
    simp only [World.size_alloc] at b2 b3
    exact ⟨(b0.below ((Below.refl _ _).alloc (Nat.le_refl _) _)).below ((Below.refl _ _).alloc (Nat.le_refl _) _), b2.below ((Below.refl _ _).alloc (Nat.le_refl _) _), b3, b1⟩
  intro W hW
  have HW := Lib.hid hW
  clear hW
  go_wp2_with (first
    | (refine wpList_load_row rfl 71 (.tmp 2) rfl w.heap.size rfl _ _ (0, 0) _ HW.out.1 Tryz.underlying71 rfl hnS ?_)
    | (go_at_call 53; apply Calls.mono; (· (with_reducible exact sfail_c _)); rintro e w4 ⟨p3, c3, rfl, b4⟩; have hz4 := HW.out.2.1.below b4; have hd4 := HW.out.2.2.1.below b4)
    | (refine wpList_store_row rfl 71 (.tmp 4) (.tmp 10) rfl (w.heap.size + 1) cC rfl rfl 71 zC hz4 (by rw [cC_size]; exact Tryz.infoS) (by rw [cC_size, zC_size]) cC_one ?_; have ho5 : Only (fun x => x = w.heap.size + 1) w4 (w4.setRow (w.heap.size + 1) cC) := only_setRowS (q := fun k => k = w.heap.size + 1) _ _ _ rfl; have hz5 : Blk (w4.setRow (w.heap.size + 1) cC) (w.heap.size + 1) 71 cC := setRow_heap w4 (w.heap.size + 1) zC cC 71 (0, 0) hz4; have hd5 := hd4.only ho5 (by omega))
    | (refine wpList_store_row rfl 79 (.tmp 5) (.tmp 11) rfl (w.heap.size + 1 + 1) (diD (.slice p3 7 c3)) rfl rfl 79 (diD (.slice none 0 0)) hd5 Tryz.infoDid rfl (diD_one _ rfl) ?_))
  have ho6 : Only (fun x => x = w.heap.size + 1 + 1) (w4.setRow (w.heap.size + 1) cC) ((w4.setRow (w.heap.size + 1) cC).setRow (w.heap.size + 1 + 1) (diD (.slice p3 7 c3))) := only_setRowS (q := fun k => k = w.heap.size + 1 + 1) _ _ _ rfl
  have hd6 : Blk ((w4.setRow (w.heap.size + 1) cC).setRow (w.heap.size + 1 + 1) (diD (.slice p3 7 c3))) (w.heap.size + 1 + 1) 79 (diD (.slice p3 7 c3)) := setRow_heap _ (w.heap.size + 1 + 1) _ (diD (.slice p3 7 c3)) 79 (0, 0) hd5
  have hB4 := HW.out.2.2.2.trans (b4.mono HW.out.2.2.2.size)
  have hB5 := below_only hB4 hB4.size ho5 (fun k hk e => by omega)
  refine bodyPost_ret (v := .tuple #[.agg cC, .agg (diD (.slice p3 7 c3)), .int .i64 0]) (results_cct (P := Tryz.prog) 4 5 6 Tryz.results24 _ _ (w.heap.size + 1) (w.heap.size + 1 + 1) _ _ cC (diD (.slice p3 7 c3)) _ _ (.int .i64 0) rfl rfl rfl (hz5.only ho6 (by omega)) hd6 Tryz.underlying71 rfl (by rw [cC_size]; exact Tryz.infoS) Tryz.underlying79 rfl Tryz.infoDid) rfl ⟨p3, c3, rfl, below_only hB5 hB5.size ho6 (fun k hk e => by omega)⟩
end Go.Proofs.YtolgaapiedbkfaaGreat
/-
  The contract of journal's Open. Conditions: those of the theorem.
-/
namespace Go.Kx
open Go.Proofs.YtolgaapiedbkfaaGreat
/-- Entries that stand on the disk behind so many entries and sectors; noughts behind them. -/
def Lays (L : List UInt8) (n : Nat) : Nat → Nat → List (List UInt8) → Prop
  | _, used, [] => used < areaF n ∧ nuF (((secF L (2 + used)).drop 16).take 2) = 0
  | m, used, b :: E => (1 ≤ b.length ∧ b.length ≤ 4096 ∧ used + needF b.length ≤ areaF n ∧ (L.drop ((2 + used) * 64)).take (64 * needF b.length) = secsF 1 m b) ∧ Lays L n (m + 1) (used + needF b.length) E
def usedF (E : List (List UInt8)) : Nat := (E.map (fun b => needF b.length)).sum
def usedOf : Option Value → Nat
  | some (.int _ x) => x.toNat
  | _ => 0
end Go.Kx
namespace Go.Proofs.YtolgaapiedbkfaaGreat
open Go.RowKit Go.Kx
set_option linter.unusedVariables false
set_option linter.unusedSimpArgs false
set_option maxRecDepth 100000
theorem infoBy : (Tryz.prog.info? 38).map (fun i => (i.zero, i.size, i.bytes)) = some (some (.slice none 0 0), 1, 24) := by kernel_rfl
/-- append of one slice of bytes onto such a row. -/
theorem RwI.app {w : World} {P P' : Nat → Prop} {v : Value} {E : List (List UInt8)} {b : List UInt8} {q : Addr} {c : Nat} {ad k : Nat} (h : RwI w P v E) (ty : TypeId) (hx : w.cell? ⟨ad, 0, none⟩ = some (.slice (some q) b.length c))
    (hR : Rd w (fun x => P' x ∧ v.ownBlock ≠ some x) (some q) b) (hc : b.length ≤ c) (hE : E.length ≤ 100000) (hP : ∀ x, P x → P' x) (hN : P' w.heap.size) :
    ∃ p' c' w', (Builtin.append_ #[31, 31] ty #[v, .slice (some ⟨ad, 0, none⟩) 1 k]).run Tryz.prog w = .ok (.slice p' (E.length + 1) c') w' ∧ RwI w' P' (.slice p' (E.length + 1) c') (E ++ [b]) ∧ Only (fun x => v.ownBlock = some x) w w' := by
  obtain ⟨⟨xs, ho, hB⟩, hob⟩ := h
  have hnews : ∀ j u, [Value.slice (some q) b.length c][j]? = some u → w.cell? ((⟨ad, 0, none⟩ : Addr).add j) = some u := by
    intro j u hj
    cases j with
    | zero =>
      have e : (⟨ad, 0, none⟩ : Addr).add 0 = ⟨ad, 0, none⟩ := by unfold Addr.add; split <;> simp_all
      rw [e, hx]
      exact hj
    | succ j => simp at hj
  have main : ∃ g' v' w', (Builtin.append_ #[31, 31] ty #[v, .slice (some ⟨ad, 0, none⟩) 1 k]).run Tryz.prog w = .ok v' w' ∧ Row w' 38 1 g' v' (E.length + 1) (xs ++ [.slice (some q) b.length c]) ∧ (v.ownBlock = some g' ∨ g' = w.heap.size) ∧ Only (fun x => v.ownBlock = some x) w w' := by
    cases hb : v.ownBlock with
    | none =>
      obtain ⟨g', v', w', hr, hrow, hg', hgr, _⟩ := run_append_row (P := Tryz.prog) w 31 ty 38 (.slice none 0 0) 1 24 (by kernel_rfl) infoBy rfl (by decide) w.heap.size v E.length xs ⟨ho, .inl hb⟩ ⟨ad, 0, none⟩ 1 k _ rfl hnews (by simp [Value.oneCell']) (by unfold maxLen; omega) (by omega)
      exact ⟨g', v', w', hr, hrow, .inr (by omega), (Only.of_grown hgr).mono fun k _ hk => by rw [hb] at hk; exact hk.symm⟩
    | some g =>
      obtain ⟨g', v', w', hr, hrow, hg', hgr, _⟩ := run_append_row (P := Tryz.prog) w 31 ty 38 (.slice none 0 0) 1 24 (by kernel_rfl) infoBy rfl (by decide) g v E.length xs ⟨ho, .inr hb⟩ ⟨ad, 0, none⟩ 1 k _ rfl hnews (by simp [Value.oneCell']) (by unfold maxLen; omega) (by omega)
      exact ⟨g', v', w', hr, hrow, (by rcases hg' with rfl | h; exact .inl rfl; exact .inr h), (Only.of_grown hgr).mono fun k _ hk => by rw [hb] at hk; exact hk.symm⟩
  obtain ⟨g', v', w', hr, hrow, hg', hO⟩ := main
  obtain ⟨p', c', rfl, hf⟩ := Row.form hrow
  refine ⟨p', c', w', hr, ⟨⟨xs ++ [.slice (some q) b.length c], by rw [List.length_append]; exact hrow.1, ?_⟩, ?_⟩, hO⟩
  · have hob' : ∀ x, Value.ownBlock (.slice p' (E.length + 1) c') = some x → x = g' := fun x hx => by
      rcases hrow.2 with h | h
      · rw [h] at hx; cases hx
      · rw [h] at hx; cases hx; rfl
    have hne : ∀ x, x < w.heap.size → v.ownBlock ≠ some x → Value.ownBlock (.slice p' (E.length + 1) c') ≠ some x := fun x hx h1 h2 => by
      have := hob' x h2
      rcases hg' with h | h
      · exact h1 (by rw [this]; exact h)
      · omega
    have h1 : BdE w' (fun x => P' x ∧ Value.ownBlock (.slice p' (E.length + 1) c') ≠ some x) xs E := hB.keep hO (fun k hk h => hk.2 h) (fun k hk hs => ⟨hP k hs.1, hne k hk hs.2⟩)
    refine h1.push b q c ?_ hc
    have h2 := (hR.mono (T := fun x => (P' x ∧ v.ownBlock ≠ some x) ∧ Value.ownBlock (.slice p' (E.length + 1) c') ≠ some x) (fun x hx hs => ⟨hs, hne x hx hs.2⟩)).kept (fun k hk hs => hO.block k hk hs.1.2)
    exact h2.mono (fun _ _ hh => ⟨hh.1.1, hh.2⟩)
  · intro x hx
    have hxg : x = g' := by
      rcases hrow.2 with h | h
      · rw [h] at hx; cases hx
      · rw [h] at hx; cases hx; rfl
    subst hxg
    refine ⟨?_, ?_⟩
    · rcases hg' with h | h
      · exact hP x (hob x h).1
      · rw [h]; exact hN
    · rcases hrow.1.2 with ⟨h, _⟩ | ⟨g2, cap, cur, hv, _, hgc, _⟩
      · rw [h] at hx; cases hx
      · rw [hv] at hx
        cases hx
        exact (Array.getElem?_eq_some_iff.1 hgc).1
theorem wpList_rows {w : World} {ops : Array Oper} {rest : List Oper} {o : Oper} {a : Act} {Q : Exit → Act → World → Prop} (hgd : o.guard = none) (s x : Operand)
    (ho : o.op = .call { callee := .builtin .append, args := #[s, x], argTypes := #[31, 31] }) {P : Nat → Prop} (P' : Nat → Prop) {v : Value} {E : List (List UInt8)} {b : List UInt8} {q : Addr} {c : Nat} {ad k : Nat} (hs : a.eval s = v) (hx' : a.eval x = .slice (some ⟨ad, 0, none⟩) 1 k) (h : RwI w P v E) (hx : w.cell? ⟨ad, 0, none⟩ = some (.slice (some q) b.length c))
    (hR : Rd w (fun x => P' x ∧ v.ownBlock ≠ some x) (some q) b) (hc : b.length ≤ c) (hE : E.length ≤ 100000) (hP : ∀ x, P x → P' x) (hN : P' w.heap.size)
    (hK : ∀ p' c' w', RwI w' P' (.slice p' (E.length + 1) c') (E ++ [b]) → Only (fun x => v.ownBlock = some x) w w' → wpList Tryz.prog ops Q rest (a.put o.dst (.slice p' (E.length + 1) c')) w') : wpList Tryz.prog ops Q (o :: rest) a w := by
  obtain ⟨p', c', w', hr, h1, h2⟩ := h.app o.type hx hR hc hE hP hN (k := k)
  exact wpList_plain hgd fun K hK' => wp_append_run w s x 31 ho v _ hs hx' hr (hK' _ _ (hK p' c' w' h1 h2))
end Go.Proofs.YtolgaapiedbkfaaGreat
