/-
  The contract of journal's Append. Conditions: those of the theorem.
-/
import Derived.Test.YtolgaapiedbkfaaGreatZJouQ
import Derived.Test.YtolgaapiedbkfaaGreatZg8
import Derived.Test.YtolgaapiedbkfaaGreatZg6
import Derived.Test.YtolgaapiedbkfaaGreatZg1
import Derived.Test.YtolgaapiedbkfaaGreatZg3
import Derived.Maps.OwnOps
import Derived.Maps.Views
import Derived.WalkArith
import Derived.Maps.OwnSet
import Derived.WideKeyEntry
namespace Go.Proofs.YtolgaapiedbkfaaGreat
open Go.RowKit Go.Kx
set_option linter.unusedVariables false
set_option linter.unusedSimpArgs false
set_option maxRecDepth 100000
theorem JI.mono {w : World} {P P' : Nat → Prop} {j r g n k used : Nat} {L : List UInt8} {E : List (List UInt8)} (h : JI w P j r g n k L E used) (hp : ∀ x, P x → P' x) (hn : ¬ P' j ∧ ¬ P' r ∧ ¬ P' g) : JI w P' j r g n k L E used := by
  obtain ⟨⟨p, c, h1, h2⟩, h3, h4, h5⟩ := h
  exact ⟨⟨p, c, h1, h2.mono hp⟩, h3, h4, hn⟩
theorem JI.keep {w w' : World} {P q : Nat → Prop} {j r g n k used : Nat} {L : List UInt8} {E : List (List UInt8)} (h : JI w P j r g n k L E used) (ho : Only q w w') (hq : ∀ x, P x ∨ x = j ∨ x = r ∨ x = g → ¬ q x) : JI w' P j r g n k L E used := by
  obtain ⟨⟨p, c, h1, h2⟩, h3, h4, h5⟩ := h
  exact ⟨⟨p, c, h1.only ho (hq j (.inr (.inl rfl))), h2.keep ho (fun k hk => hq k (.inl hk))⟩, h3.only ho (hq r (.inr (.inr (.inl rfl)))) (hq g (.inr (.inr (.inr rfl)))), h4, h5⟩
theorem JI.below {w w' : World} {P : Nat → Prop} {j r g n k used : Nat} {L : List UInt8} {E : List (List UInt8)} (h : JI w P j r g n k L E used) (hb : Below w.heap.size w w') : JI w' P j r g n k L E used := h.keep (Only.of_below hb : Only (fun _ => False) w w') (fun _ _ h => h)
set_option maxHeartbeats 4000000 in
theorem append_c (P : Nat → Prop) (j r g n k used M N c : Nat) (L : List UInt8) (E : List (List UInt8)) (T : Nat → Prop) (q : Addr) (b : List UInt8) (w : World) (hJ : JI w P j r g n k L E used) (h4 : 4 ≤ n) (hb : Rd w T (some q) b) (hT : ∀ x, T x → x ≠ j ∧ x ≠ r ∧ x ≠ g) (hc : M ≤ c) (hM : b.length = M) (hN : needF M = N) (h1 : 1 ≤ M) (h2 : M ≤ 4096) (h46 : (18 + M) % 64 ≠ 0) (hu : used + N ≤ areaF n) (hE : E.length ≤ 1000) (hk : k ≤ 1000) :
    Calls Tryz.prog 43 #[rp j, .slice (some q) M c] w (PutR w P j r g n k L E used b) := by
  have hJJ := Lib.hid hJ
  obtain ⟨⟨p, cp, hblk, hrow⟩, hD, hne, hnp⟩ := hJ
  have c4 : w.cell? ⟨j, 4, none⟩ = some (.int .i64 (used : Int)) := hblk.c 4
  have hba : ∀ o, Below w.heap.size w (w.alloc o) := fun o => (Below.refl _ _).alloc (Nat.le_refl _) _
  have d2 : ∀ o, (w.alloc o).cell? ⟨j, 2, none⟩ = some (.int .i64 0) := fun o => (hblk.below (hba o)).c 2
  have hcl : (w.alloc (.cells #[.slice (some q) M c] 38)).cell? ⟨w.heap.size, 0, none⟩ = some (.slice (some q) M c) := (Blk.new w 38 #[.slice (some q) M c]).c 0
  have hl : j < w.heap.size ∧ r < w.heap.size ∧ g < w.heap.size := ⟨hblk.lt, hD.b.lt, hD.s.lt⟩
  have H := Lib.hid (And.intro hblk (And.intro hD (And.intro hb (And.intro hT (And.intro hM (And.intro hN (And.intro hcl (And.intro hl hnp))))))))
  clear hblk hrow hD hne hnp hb hT hM hN hcl hl
  go_enter Tryz.func43, Tryz.ntmps43
  go_upto_region 4 with (fail)
  clear c4
  go_upto_region 7 with (go_at_call 83; apply Calls.mono; (· (with_reducible refine jMay_c j r g n k used E.length cp w.heap.size p (some q) 1 c M N L _ ?_ ?_ ?_ ?_ ?_ ?_ ?_ ?_); (· exact H.out.1.below (hba _)); (· exact H.out.2.1.below (hba _)); (· omega); (· exact H.out.2.2.2.2.2.2.1); (· exact h1); (· exact h2); (· exact H.out.2.2.2.2.2.1); (· exact hu)); rintro e w1 ⟨rfl, hw⟩; rw [hw]; clear hw w1)
  go_wp2_with (go_at_call 84; apply Calls.mono; (· (with_reducible refine put_c P j r g n k used M N c L E T q b _ ?_ ?_ ?_ ?_ ?_ ?_ ?_ ?_ ?_ ?_ ?_ ?_ ?_); (· exact hJJ.out.below (hba _)); (· exact h4); (· exact H.out.2.2.1.below (hba _)); (· exact H.out.2.2.2.1); (· exact hc); (· exact H.out.2.2.2.2.1); (· exact H.out.2.2.2.2.2.1); (· exact h1); (· exact h2); (· exact h46); (· exact hu); (· exact hE); (· exact hk)); rintro e w2 ⟨rfl, hJ2, hO2⟩)
  go_ret
  have hnp := H.out.2.2.2.2.2.2.2.2
  have hl := H.out.2.2.2.2.2.2.2.1
  refine ⟨rfl, hJ2.mono (fun x hx => ?_) ⟨?_, ?_, ?_⟩, (Only.of_below (hba _)).trans hO2 (fun _ h => h) (fun x _ h => h)⟩
  · rcases hx with h | h
    · exact .inl h
    · rw [World.size_alloc] at h; exact .inr (by omega)
  · intro h; rcases h with h | h; (· exact hnp.1 h); (· omega)
  · intro h; rcases h with h | h; (· exact hnp.2.1 h); (· omega)
  · intro h; rcases h with h | h; (· exact hnp.2.2 h); (· omega)
end Go.Proofs.YtolgaapiedbkfaaGreat
/-
  The contracts of host's keyFor, entry and On, and of tickets' New. Conditions: those of each theorem.
-/
namespace Go.Proofs.YtolgaapiedbkfaaGreat
open Go.RowKit Go.Kx
set_option linter.unusedVariables false
set_option linter.unusedSimpArgs false
set_option maxRecDepth 100000
theorem macF_len (key m : List UInt8) : (macF key m).length = 32 := sumL_len _
theorem rd_bytesRow (w : World) (s : List UInt8) (c e : Nat) (f : Nat × Nat) (hc : s.length ≤ c) : Rd (w.alloc (.cells (bytesRow ⟨s.toArray⟩ c) e f)) (fun x => x = w.heap.size) (some ⟨w.heap.size, 0, none⟩) s := Rd.of_at rfl fun i hi => by
  have h := bytesRow_at ⟨s.toArray⟩ c i (by simpa using hi)
  have hh := heap_alloc_new w (.cells (bytesRow ⟨s.toArray⟩ c) e f)
  rw [Nat.zero_add]
  simp only [World.cell?, hh]
  rw [h]
  simp
def KfR (w : World) (key s : List UInt8) (e : Ending) (w' : World) : Prop := BackR w (.agg ((macF key s).map B8).toArray) e w'
theorem keyFor_g (key s : List UInt8) (str : ByteArray) (w : World) (hs : str = ⟨s.toArray⟩) (hk : key.length = 32) (h0 : 0 < s.length) (h9 : s.length ≤ 100) : Calls Tryz.prog 32 #[.agg (key.map B8).toArray, .string str] w (KfR w key s) := by
  have hkz : ((key.map B8).toArray).size = 32 := by simp [hk]
  have hss : str.size = s.length := by rw [hs]; simp [ByteArray.size]
  have hu9 : Tryz.prog.underlying 9 = some .string := by kernel_rfl
  have hcv : ∀ W, ∃ c W', (convert 9 38 (.string str)).run Tryz.prog W = .ok (.slice (some ⟨W.heap.size, 0, none⟩) s.length c) W' ∧ Rd W' (fun x => x = W.heap.size) (some ⟨W.heap.size, 0, none⟩) s ∧ Below W.heap.size W W' := fun W => by
    have h := run_bytes_of_string (P := Tryz.prog) W 9 38 5 str hu9 Tryz.underlying38 Tryz.underlying5
    rw [hss] at h
    refine ⟨_, _, h, ?_, ((Below.refl _ W).drew).alloc (Nat.le_refl _) _⟩
    rw [hs]
    exact rd_bytesRow W.drew s _ _ _ (by have := grownCap_ge W s.length 0 5; omega)
  clear hs
  go_enter Tryz.func32, Tryz.ntmps32
  go_upto_region 1 with (fail)
  refine wp_world (fun W => ArrB W w.heap.size 29 key ∧ ArrB W (w.heap.size + 1) 29 (List.replicate 32 0) ∧ Below w.heap.size w W) ?_ ?_
  · have a2 := ArrB.new (w.alloc (.cells (key.map B8).toArray 29)) 29 (List.replicate 32 0)
    rw [World.size_alloc] at a2
    exact ⟨(ArrB.new w _ key).below ((Below.refl _ _).alloc (Nat.le_refl _) _), a2, ((Below.refl _ w).alloc (Nat.le_refl _) _).alloc (by simp) _⟩
  intro W hW
  have H := Lib.hid hW
  clear hW
  obtain ⟨c, W', hcW, hRs, hBw⟩ := hcv W
  clear hcv
  have HM := Lib.hid (And.intro hRs hBw)
  clear hRs hBw
  go_wp2_with (first
    | (go_at_call 65; apply Calls.mono; (· (with_reducible refine mac_c (fun x => x = w.heap.size) (some ⟨w.heap.size, 0, none⟩) 32 32 key (fun x => x = W.heap.size) (some ⟨W.heap.size, 0, none⟩) s.length c s _ ?_ ?_ ?_ ?_ ?_ ?_ ?_); (· exact ArrB.rd (H.out.1.below HM.out.2)); (· exact hk); (· decide); (· exact HM.out.1); (· intro h; cases h); (· rfl); (· omega)); rintro e w2 ⟨rfl, b2⟩)
    | (refine st_arrB rfl 29 (.tmp 4) (.tmp 8) rfl (w.heap.size + 1) (macF key s) rfl rfl _ (List.replicate 32 0) ((H.out.2.1.below HM.out.2).below b2) (by rw [macF_len]; exact Tryz.infoB32) (by rw [macF_len]; simp) ?_; intro w4 hA4 hO4))
  have hbz := (H.out.2.2.trans (HM.out.2.mono H.out.2.2.size)).trans (b2.mono (Nat.le_trans H.out.2.2.size HM.out.2.size))
  refine bodyPost_ret (v := .agg ((macF key s).map B8).toArray) (results_cell_row (P := Tryz.prog) Tryz.results32 _ _ (w.heap.size + 1) _ _ _ _ rfl hA4 Tryz.underlying29 rfl (by rw [Tryz.infoB32]; simp [macF_len])) rfl ⟨rfl, below_only hbz hbz.size hO4 (fun k hk e => by omega)⟩
theorem be_len (n : Nat) (k : Nat) : (be n k).length = k := be_length n k
theorem entry_2 (k n : Nat) (w : World) (hk : k ≤ 255) (hn : n < 65536) : Calls Tryz.prog 19 #[.int .i64 (k : Int), .int .i64 (n : Int), .int .i64 2] w (NewOB w (UInt8.ofNat k :: be n 2)) := by
  have cv := cvA k hk
  have hp : ∀ wx : World, Calls Tryz.prog 46 #[.slice (some ⟨wx.heap.size, 0, none⟩) 1 1, .int .i64 (n : Int), .int .i64 2] (wx.alloc (.cells ([UInt8.ofNat k].map B8).toArray 5)) (NewOB (wx.alloc (.cells ([UInt8.ofNat k].map B8).toArray 5)) ([UInt8.ofNat k] ++ be n 2)) := fun wx => (put_yes (fun x => x = wx.heap.size) (some ⟨wx.heap.size, 0, none⟩) 1 1 [UInt8.ofNat k] n 2 _ (Rd.lit wx [UInt8.ofNat k]) (fun h => by cases h) (by simp) rfl (by decide) (by simpa using hn)).mono fun e w' h => h.new
  generalize UInt8.ofNat k = A at *
  have hb : ∀ o, Below w.heap.size w (w.alloc o) := fun o => (Below.refl _ w).alloc (Nat.le_refl _) _
  go_enter Tryz.func19, Tryz.ntmps19
  go_wp2_with (go_at_call 46; apply Calls.mono; (· (exact hp w)); rintro e w2 ⟨p2, n2, c2, rfl, h2, x2, b2⟩)
  go_ret
  exact ⟨p2, n2, c2, rfl, h2, fun k hk => by have := x2 k hk; rw [World.size_alloc] at this; omega, (hb _).trans (b2.mono (hb _).size)⟩
theorem entry_4 (k n : Nat) (w : World) (hk : k ≤ 255) (hn : n < 4294967296) : Calls Tryz.prog 19 #[.int .i64 (k : Int), .int .i64 (n : Int), .int .i64 4] w (NewOB w (UInt8.ofNat k :: be n 4)) := by
  have cv := cvA k hk
  have hp : ∀ wx : World, Calls Tryz.prog 46 #[.slice (some ⟨wx.heap.size, 0, none⟩) 1 1, .int .i64 (n : Int), .int .i64 4] (wx.alloc (.cells ([UInt8.ofNat k].map B8).toArray 5)) (NewOB (wx.alloc (.cells ([UInt8.ofNat k].map B8).toArray 5)) ([UInt8.ofNat k] ++ be n 4)) := fun wx => (put_yes (fun x => x = wx.heap.size) (some ⟨wx.heap.size, 0, none⟩) 1 1 [UInt8.ofNat k] n 4 _ (Rd.lit wx [UInt8.ofNat k]) (fun h => by cases h) (by simp) rfl (by decide) (by simpa using hn)).mono fun e w' h => h.new
  generalize UInt8.ofNat k = A at *
  have hb : ∀ o, Below w.heap.size w (w.alloc o) := fun o => (Below.refl _ w).alloc (Nat.le_refl _) _
  go_enter Tryz.func19, Tryz.ntmps19
  go_wp2_with (go_at_call 46; apply Calls.mono; (· (exact hp w)); rintro e w2 ⟨p2, n2, c2, rfl, h2, x2, b2⟩)
  go_ret
  exact ⟨p2, n2, c2, rfl, h2, fun k hk => by have := x2 k hk; rw [World.size_alloc] at this; omega, (hb _).trans (b2.mono (hb _).size)⟩
theorem on_c (h : Nat) (w : World) (hc : w.cell? ⟨h, 73, none⟩ = some (.bool false)) : Calls Tryz.prog 17 #[rp h] w fun e w' => e = .returned (.bool true) ∧ w' = w := by
  go_enter Tryz.func17, Tryz.ntmps17
  go_wp2
  go_ret
  exact ⟨rfl, rfl⟩
end Go.Proofs.YtolgaapiedbkfaaGreat
/-
  The contract of tickets' New; the cells of a host. Condition: a key of thirty-two bytes.
-/
namespace Go.Proofs.YtolgaapiedbkfaaGreat
open Go.RowKit Go.Kx
set_option linter.unusedVariables false
set_option linter.unusedSimpArgs false
set_option maxRecDepth 100000
theorem list32 (tk : List UInt8) (h : tk.length = 32) : ∃ t0 t1 t2 t3 t4 t5 t6 t7 t8 t9 t10 t11 t12 t13 t14 t15 t16 t17 t18 t19 t20 t21 t22 t23 t24 t25 t26 t27 t28 t29 t30 t31, tk = [t0, t1, t2, t3, t4, t5, t6, t7, t8, t9, t10, t11, t12, t13, t14, t15, t16, t17, t18, t19, t20, t21, t22, t23, t24, t25, t26, t27, t28, t29, t30, t31] := by
  match tk, h with
  | [t0, t1, t2, t3, t4, t5, t6, t7, t8, t9, t10, t11, t12, t13, t14, t15, t16, t17, t18, t19, t20, t21, t22, t23, t24, t25, t26, t27, t28, t29, t30, t31], _ => exact ⟨t0, t1, t2, t3, t4, t5, t6, t7, t8, t9, t10, t11, t12, t13, t14, t15, t16, t17, t18, t19, t20, t21, t22, t23, t24, t25, t26, t27, t28, t29, t30, t31, rfl⟩
/-- A table of no tickets. -/
def tkV (tk : List UInt8) : Array Value := (tk.map B8 ++ [Value.int .i64 0, .slice none 0 0]).toArray
def k7 : List UInt8 := 7 :: List.replicate 31 0
theorem k7_len : k7.length = 32 := rfl
/-- A host's cells. -/
def hoV (j : Nat) (ch : Value) (tk : List UInt8) (mc mh cnt cnts : Nat) (sl : Value) (en : Bool) : Array Value := ([rp j] ++ k7.map B8 ++ [ch] ++ tk.map B8 ++ [.int .i64 0, .slice none 0 0, .map (some mc), .map (some mh), .int .i64 (cnt : Int), .int .i64 (cnts : Int), sl, .bool en]).toArray
theorem Tryz.builtTk (tk : List UInt8) (h : tk.length = 32) : Tryz.prog.built 59 [(0, .agg (tk.map B8).toArray)] = some (tkV tk) := by
  obtain ⟨t0, t1, t2, t3, t4, t5, t6, t7, t8, t9, t10, t11, t12, t13, t14, t15, t16, t17, t18, t19, t20, t21, t22, t23, t24, t25, t26, t27, t28, t29, t30, t31, rfl⟩ := list32 tk h
  kernel_rfl
theorem Tryz.builtHo (j : Nat) (tk : List UInt8) (h : tk.length = 32) (mc mh : Nat) : Tryz.prog.built 64 [(0, rp j), (1, .agg (k7.map B8).toArray), (3, .agg (tkV tk)), (4, .map (some mc)), (5, .map (some mh))] = some (hoV j (.slice none 0 0) tk mc mh 0 0 (.slice none 0 0) false) := by
  obtain ⟨t0, t1, t2, t3, t4, t5, t6, t7, t8, t9, t10, t11, t12, t13, t14, t15, t16, t17, t18, t19, t20, t21, t22, t23, t24, t25, t26, t27, t28, t29, t30, t31, rfl⟩ := list32 tk h
  kernel_rfl
theorem hoV_size (j : Nat) (ch : Value) (tk : List UInt8) (h : tk.length = 32) (mc mh cnt cnts : Nat) (sl : Value) (en : Bool) : (hoV j ch tk mc mh cnt cnts sl en).size = 74 := by simp [hoV, k7, h]
theorem hoV_set (j : Nat) (ch : Value) (tk : List UInt8) (h : tk.length = 32) (mc mh cnt cnts : Nat) (sl : Value) (en : Bool) :
    (∀ v, (hoV j ch tk mc mh cnt cnts sl en).setIfInBounds 33 v = hoV j v tk mc mh cnt cnts sl en) ∧ (∀ n : Nat, (hoV j ch tk mc mh cnt cnts sl en).setIfInBounds 70 (.int .i64 (n : Int)) = hoV j ch tk mc mh n cnts sl en) ∧ (∀ n : Nat, (hoV j ch tk mc mh cnt cnts sl en).setIfInBounds 71 (.int .i64 (n : Int)) = hoV j ch tk mc mh cnt n sl en) ∧ (∀ v, (hoV j ch tk mc mh cnt cnts sl en).setIfInBounds 72 v = hoV j ch tk mc mh cnt cnts v en) := by
  obtain ⟨t0, t1, t2, t3, t4, t5, t6, t7, t8, t9, t10, t11, t12, t13, t14, t15, t16, t17, t18, t19, t20, t21, t22, t23, t24, t25, t26, t27, t28, t29, t30, t31, rfl⟩ := list32 tk h
  refine ⟨fun v => ?_, fun n => ?_, fun n => ?_, fun v => ?_⟩ <;> kernel_rfl
theorem hoV_get (j : Nat) (ch : Value) (tk : List UInt8) (h : tk.length = 32) (mc mh cnt cnts : Nat) (sl : Value) (en : Bool) :
    (hoV j ch tk mc mh cnt cnts sl en)[0]? = some (rp j) ∧ (hoV j ch tk mc mh cnt cnts sl en)[33]? = some ch ∧ (hoV j ch tk mc mh cnt cnts sl en)[68]? = some (.map (some mc)) ∧ (hoV j ch tk mc mh cnt cnts sl en)[69]? = some (.map (some mh)) ∧ (hoV j ch tk mc mh cnt cnts sl en)[70]? = some (.int .i64 (cnt : Int)) ∧ (hoV j ch tk mc mh cnt cnts sl en)[71]? = some (.int .i64 (cnts : Int)) ∧ (hoV j ch tk mc mh cnt cnts sl en)[72]? = some sl ∧ (hoV j ch tk mc mh cnt cnts sl en)[73]? = some (.bool en) := by
  obtain ⟨t0, t1, t2, t3, t4, t5, t6, t7, t8, t9, t10, t11, t12, t13, t14, t15, t16, t17, t18, t19, t20, t21, t22, t23, t24, t25, t26, t27, t28, t29, t30, t31, rfl⟩ := list32 tk h
  refine ⟨?_, ?_, ?_, ?_, ?_, ?_, ?_, ?_⟩ <;> kernel_rfl
theorem tkV_size (tk : List UInt8) (h : tk.length = 32) : (tkV tk).size = 34 := by simp [tkV, h]
theorem tkV_one (tk : List UInt8) : (tkV tk).all (·.oneCell') = true := by
  unfold tkV
  simp [Value.oneCell']
theorem Tryz.infoTk : (Tryz.prog.info? 59).map (·.size) = some 34 := by kernel_rfl
theorem tnew_c (tk : List UInt8) (w : World) (hk : tk.length = 32) : Calls Tryz.prog 37 #[.agg (tk.map B8).toArray] w (BackR w (.agg (tkV tk))) := by
  have hkz : ((tk.map B8).toArray).size = 32 := by simp [hk]
  go_enter Tryz.func37, Tryz.ntmps37
  go_upto_region 1 with (fail)
  refine wp_world (fun W => ArrB W w.heap.size 29 tk ∧ Blk W (w.heap.size + 1) 59 (tkV (List.replicate 32 0)) ∧ Below w.heap.size w W) ?_ ?_
  · have a2 := Blk.new (w.alloc (.cells (tk.map B8).toArray 29)) 59 (tkV (List.replicate 32 0))
    rw [World.size_alloc] at a2
    exact ⟨(ArrB.new w _ tk).below ((Below.refl _ _).alloc (Nat.le_refl _) _), a2, ((Below.refl _ w).alloc (Nat.le_refl _) _).alloc (by simp) _⟩
  intro W hW
  have H := Lib.hid hW
  clear hW
  have hb := Tryz.builtTk tk hk
  go_wp2_with (first
    | (refine ld_arrB rfl 29 (.tmp 1) rfl w.heap.size rfl _ tk H.out.1 _ _ Tryz.underlying29 (by rw [hk]; exact Tryz.infoB32) ?_)
    | (refine wpList_build_eq rfl 59 _ rfl (C := tkV tk) (l := [(0, .agg (tk.map B8).toArray)]) (by simp [Act.eval, Act.put]) hb ?_)
    | (refine wpList_store_row rfl 59 (.tmp 2) (.tmp 4) rfl (w.heap.size + 1) (tkV tk) rfl rfl 59 (tkV (List.replicate 32 0)) H.out.2.1 (by rw [tkV_size tk hk]; exact Tryz.infoTk) (by rw [tkV_size tk hk]; rfl) (tkV_one tk) ?_))
  have hst := setRow_heap W (w.heap.size + 1) (tkV (List.replicate 32 0)) (tkV tk) 59 (0, 0) H.out.2.1
  refine bodyPost_ret (v := .agg (tkV tk)) (results_cell_row rfl _ _ (w.heap.size + 1) 59 (tkV tk) (0, 0) _ rfl hst Tryz.underlying59 rfl (by rw [tkV_size tk hk]; exact Tryz.infoTk)) rfl ⟨rfl, ?_⟩
  exact below_only H.out.2.2 H.out.2.2.size (only_setRowS (q := fun k => k = w.heap.size + 1) _ _ _ rfl) (by intro k hk e; omega)
end Go.Proofs.YtolgaapiedbkfaaGreat
/-
  A map[int]bool of the call's own that holds a list of numbers: look-up and store. Condition: fewer than maxLen entries.
-/
namespace Go.Proofs.YtolgaapiedbkfaaGreat
open Go.RowKit Go.Kx Go.Maps

abbrev HD := DataW Unit
def hadD (had : List Int) : HD := had.foldr (fun k D => D.put (.int .i64 k) (.lit (.bool true))) (.map [])
theorem hadD_map (had : List Int) : IsMap (hadD had) := by
  induction had with
  | nil => exact isMap_empty
  | cons k t ih =>
    obtain ⟨es, h⟩ := ih
    show IsMap ((hadD t).put _ _)
    rw [h]
    exact ⟨_, rfl⟩
theorem hadD_at (had : List Int) (k : Int) : (hadD had).atKey (.int .i64 k) (.lit (.bool false)) = .lit (.bool (decide (k ∈ had))) := by
  induction had with
  | nil => simp [hadD, DataW.atKey]
  | cons x t ih =>
    show ((hadD t).put _ _).atKey _ _ = _
    by_cases e : k = x
    · subst e
      rw [atKey_put_same (hadD_map t) (by simp [WideAt.IsKeyLit])]
      simp
    · rw [atKey_put_other (by simp; exact e), ih]
      simp [e]
/-- Block b is a map that holds these numbers. -/
def HadAt (w : World) (b : Nat) (had : List Int) : Prop := w.ownsMap Tryz.prog 3 (plainElem (H := Unit) Tryz.prog 4) b had.length (hadD had)
theorem HadAt.lt {w : World} {b : Nat} {had : List Int} (h : HadAt w b had) : b < w.heap.size := World.ownsMap.lt h
theorem HadAt.new (w : World) : HadAt (w.alloc (.map #[] 0)) w.heap.size [] := World.ownsMap_made _ _ _ _
theorem HadAt.only {w w' : World} {q : Nat → Prop} {b : Nat} {had : List Int} (h : HadAt w b had) (ho : Only q w w') (hq : ¬ q b) : HadAt w' b had := by
  obtain ⟨es, clock, hb, F, hs, hD⟩ := id h
  exact ⟨es, clock, (ho.block b h.lt hq).trans hb, F, hs, hD⟩
theorem plainElem_bool_inv {P : Program} {e : TypeId} (he : P.underlying e = some .bool) {v : Value} {z : HD × List MemPlace} (h : plainElem P e v = some z) : ∃ x, v = .bool x ∧ z = (.lit (.bool x), []) := by
  unfold plainElem at h
  rw [he] at h
  cases v <;> simp at h
  exact ⟨_, rfl, h.symm⟩
theorem zeroB (w : World) : (zeroValue 4).run Tryz.prog w = .ok (.bool false) w := by kernel_rfl
theorem run_lookup_had {w : World} {b : Nat} {had : List Int} (h : HadAt w b had) (k : Int) (hk : (Lit.int .i64 k).wf = true) : (Instr.lookup 61 (.map (some b)) (.int .i64 k) false).run Tryz.prog w = .ok (.bool (decide (k ∈ had))) w := by
  obtain ⟨v, ps, hrun, hv⟩ := World.ownsMap.lookup h (int_keyed Tryz.underlying3) Tryz.underlying61 (zeroB w) (plainElem_bool Tryz.underlying4 false) (keyOf_int_mk Tryz.underlying3 hk)
  obtain ⟨x, rfl, hx⟩ := plainElem_bool_inv Tryz.underlying4 hv
  rw [hadD_at] at hx
  simp only [Prod.mk.injEq, DataW.lit.injEq, Lit.bool.injEq] at hx
  rw [hrun, hx.1]
theorem wpList_lookup_had (w : World) {ops : Array Oper} {rest : List Oper} {o : Oper} {a : Act} {Q : Exit → Act → World → Prop}
    (hg : o.guard = none) (m x : Operand) (hop : o.op = Op.lookup 61 m x false) (b : Nat) (had : List Int) (k : Int)
    (hm : a.eval m = .map (some b)) (hx : a.eval x = .int .i64 k) (h : HadAt w b had) (hk : (Lit.int .i64 k).wf = true)
    (hK : wpList Tryz.prog ops Q rest (a.put o.dst (.bool (decide (k ∈ had)))) w) : wpList Tryz.prog ops Q (o :: rest) a w := by
  refine wpList_plain hg fun K' hK' => ?_
  have hrun := run_lookup_had h k hk
  unfold Oper.wp
  simp [execOp, hop, hm, hx, hrun, Result.andThen]
  exact hK' _ _ hK
theorem wpList_update_had (w : World) {ops : Array Oper} {rest : List Oper} {o : Oper} {a : Act} {Q : Exit → Act → World → Prop}
    (hg : o.guard = none) (m x v : Operand) (hop : o.op = Op.mapUpdate 61 m x v) (b : Nat) (had : List Int) (k : Int)
    (hm : a.eval m = .map (some b)) (hx : a.eval x = .int .i64 k) (hv : a.eval v = .bool true) (h : HadAt w b had) (hk : (Lit.int .i64 k).wf = true) (hn : had.length < maxLen)
    (hK : ∀ w', HadAt w' b (k :: had) → Only (· = b) w w' → wpList Tryz.prog ops Q rest (a.put o.dst undef) w') : wpList Tryz.prog ops Q (o :: rest) a w :=
  wpList_mapUpdate_own w hg m x v 61 hop 3 4 (int_keyed Tryz.underlying3) Tryz.underlying61 _ b had.length (hadD had) hm h hn _ _ _ hx hv (keyOf_int_mk Tryz.underlying3 hk) _ [] (plainElem_bool Tryz.underlying4 true)
    fun w' h1 h2 => hK w' h1 ((Only.of_grown h2).mono fun k _ hk => by simpa using hk)
end Go.Proofs.YtolgaapiedbkfaaGreat
/-
  The map of connections: which block each number's is. Condition: fewer than maxLen entries.
-/
namespace Go.Proofs.YtolgaapiedbkfaaGreat
open Go.RowKit Go.Kx Go.Maps
set_option linter.unusedVariables false
set_option linter.unusedSimpArgs false
set_option maxRecDepth 100000
def cnE : Option Nat → HD
  | none => .lit (.bool false)
  | some b => .lit (.int .i64 (b : Int))
def cnP : Option Nat → Value
  | none => .pointer none
  | some b => rp b
def ptrElem (v : Value) : Option (HD × List MemPlace) := match v with
  | .pointer none => some (.lit (.bool false), [])
  | .pointer (some ⟨b, 0, none⟩) => some (.lit (.int .i64 (b : Int)), [])
  | _ => none
theorem ptrElem_inv {v : Value} {o : Option Nat} {ps : List MemPlace} (h : ptrElem v = some (cnE o, ps)) : v = cnP o := by
  unfold ptrElem at h
  split at h
  · cases o with
    | none => rfl
    | some b => simp [cnE] at h
  · cases o with
    | none => simp [cnE] at h
    | some b =>
      rename_i b'
      simp only [cnE, Option.some.injEq, Prod.mk.injEq, DataW.lit.injEq, Lit.int.injEq] at h
      have e : b' = b := by have := h.1.2; omega
      rw [e]
      rfl
  · cases h
def z0D : HD := .lit (.bool false)
def updF (f : Int → Option Nat) (k : Int) (o : Option Nat) : Int → Option Nat := fun x => if x = k then o else f x
/-- Block b is the map of these connections, so many. -/
def CnS (w : World) (b : Nat) (f : Int → Option Nat) (n : Nat) : Prop := ∃ D, w.ownsMap Tryz.prog 3 ptrElem b n D ∧ Tidy D ∧ (∀ k, D.atKey (.int .i64 k) z0D = cnE (f k)) ∧ (∀ k, has D (.int .i64 k) = (f k).isSome) ∧ size D = n
theorem CnS.lt {w : World} {b n : Nat} {f : Int → Option Nat} (h : CnS w b f n) : b < w.heap.size := by obtain ⟨D, h, _⟩ := h; exact World.ownsMap.lt h
theorem CnS.new (w : World) : CnS (w.alloc (.map #[] 0)) w.heap.size (fun _ => none) 0 := ⟨.map [], World.ownsMap_made _ _ _ _, tidy_empty, fun k => by simp [DataW.atKey, cnE, z0D], fun k => by simp [has_eq], rfl⟩
theorem CnS.only {w w' : World} {q : Nat → Prop} {b n : Nat} {f : Int → Option Nat} (h : CnS w b f n) (ho : Only q w w') (hq : ¬ q b) : CnS w' b f n := by
  obtain ⟨D, h1, h2⟩ := h
  refine ⟨D, ?_, h2⟩
  have hl := World.ownsMap.lt h1
  obtain ⟨es, clock, hb, F, hs, hD⟩ := id h1
  exact ⟨es, clock, (ho.block b hl hq).trans hb, F, hs, hD⟩
theorem own_tight {w : World} {b n : Nat} {D : HD} (h : w.ownsMap Tryz.prog 3 ptrElem b n D) : w.ownsMap Tryz.prog 3 ptrElem b (size D) D := by
  obtain ⟨es, clock, hb, F, hs, hD⟩ := h
  refine ⟨es, clock, hb, F, ?_, hD⟩
  rw [hD, size_eq, length_sorted]
  simp
theorem zeroPt (w : World) : (zeroValue 67).run Tryz.prog w = .ok (.pointer none) w := by kernel_rfl
theorem run_lookup_cn {w : World} {b n : Nat} {f : Int → Option Nat} (h : CnS w b f n) (k : Int) (hk : (Lit.int .i64 k).wf = true) : (Instr.lookup 60 (.map (some b)) (.int .i64 k) false).run Tryz.prog w = .ok (cnP (f k)) w := by
  obtain ⟨D, h1, h2, h3, h4, h5⟩ := h
  obtain ⟨v, ps, hrun, hv⟩ := World.ownsMap.lookup h1 (int_keyed Tryz.underlying3) Tryz.underlying60 (zeroPt w) (zd := z0D) (zp := []) rfl (keyOf_int_mk Tryz.underlying3 hk)
  rw [h3] at hv
  rw [hrun, ptrElem_inv hv]
theorem CnS.put {w w' : World} {b n : Nat} {f : Int → Option Nat} {D : HD} (h2 : Tidy D) (h3 : ∀ k, D.atKey (.int .i64 k) z0D = cnE (f k)) (h4 : ∀ k, has D (.int .i64 k) = (f k).isSome) (h5 : size D = n) (k : Int) (p : Nat)
    (h1 : w'.ownsMap Tryz.prog 3 ptrElem b (n + 1) (D.put (.int .i64 k) (.lit (.int .i64 (p : Int))))) (hf : f k = none) : CnS w' b (updF f k (some p)) (n + 1) := by
  have hs : size (D.put (.int .i64 k) (.lit (.int .i64 (p : Int)))) = n + 1 := by rw [size_put h2, h4, hf, h5]; rfl
  refine ⟨_, h1, h2.put (by simp [WideAt.IsKeyLit]) _, fun x => ?_, fun x => ?_, hs⟩
  · by_cases e : x = k
    · subst e
      rw [atKey_put_same h2.isMap (by simp [WideAt.IsKeyLit])]
      simp [updF, cnE]
    · rw [atKey_put_other (by simp; exact e), h3]
      simp [updF, e]
  · by_cases e : x = k
    · subst e
      rw [has_put_same h2.isMap (by simp [WideAt.IsKeyLit])]
      simp [updF]
    · rw [has_put_other (by simp; exact e), h4]
      simp [updF, e]
theorem wpList_update_cn (w : World) {ops : Array Oper} {rest : List Oper} {o : Oper} {a : Act} {Q : Exit → Act → World → Prop}
    (hg : o.guard = none) (m x v : Operand) (hop : o.op = Op.mapUpdate 60 m x v) (b n : Nat) (f : Int → Option Nat) (k : Int) (p : Nat)
    (hm : a.eval m = .map (some b)) (hx : a.eval x = .int .i64 k) (hv : a.eval v = rp p) (h : CnS w b f n) (hf : f k = none) (hk : (Lit.int .i64 k).wf = true) (hn : n < maxLen)
    (hK : ∀ w', CnS w' b (updF f k (some p)) (n + 1) → Only (· = b) w w' → wpList Tryz.prog ops Q rest (a.put o.dst undef) w') : wpList Tryz.prog ops Q (o :: rest) a w := by
  obtain ⟨D, h1, h2, h3, h4, h5⟩ := h
  exact wpList_mapUpdate_own w hg m x v 60 hop 3 67 (int_keyed Tryz.underlying3) Tryz.underlying60 _ b n D hm h1 hn _ _ _ hx hv (keyOf_int_mk Tryz.underlying3 hk) (.lit (.int .i64 (p : Int))) [] rfl
    fun w' h6 h7 => hK w' (CnS.put (w := w) h2 h3 h4 h5 k p h6 hf) ((Only.of_grown h7).mono fun k _ hk => by simpa using hk)
theorem wpList_delete_cn (w : World) {ops : Array Oper} {rest : List Oper} {o : Oper} {a : Act} {Q : Exit → Act → World → Prop}
    (hg : o.guard = none) (m x : Operand) (hop : o.op = Op.call { callee := Callee.builtin Builtin.delete, args := #[m, x], argTypes := #[60, 3] }) (b n : Nat) (f : Int → Option Nat) (k : Int)
    (hm : a.eval m = .map (some b)) (hx : a.eval x = .int .i64 k) (h : CnS w b f (n + 1)) (hf : (f k).isSome = true) (hk : (Lit.int .i64 k).wf = true)
    (hK : ∀ w', CnS w' b (updF f k none) n → Only (· = b) w w' → wpList Tryz.prog ops Q rest (a.put o.dst (.tuple #[])) w') : wpList Tryz.prog ops Q (o :: rest) a w := by
  obtain ⟨D, h1, h2, h3, h4, h5⟩ := h
  refine wpList_delete_own w hg m x 60 3 hop 67 (int_keyed Tryz.underlying3) Tryz.underlying60 _ b (n + 1) D hm h1 _ _ hx (keyOf_int_mk Tryz.underlying3 hk) fun w' h6 h7 => hK w' ?_ ((Only.of_grown h7.grown).mono fun k _ hk => by simpa using hk)
  have hs : size (D.del (.int .i64 k)) = n := by
    have h := size_del (k := .int .i64 k) h2
    rw [h4, hf, h5] at h
    simp at h
    omega
  refine ⟨_, by rw [← hs]; exact own_tight h6, h2.del _, fun x => ?_, fun x => ?_, hs⟩
  · by_cases e : x = k
    · subst e
      rw [atKey_del_same]
      simp [updF, cnE, z0D]
    · rw [atKey_del_other (by simp; exact e), h3]
      simp [updF, e]
  · by_cases e : x = k
    · subst e
      rw [has_del_same]
      simp [updF]
    · rw [has_del_other (by simp; exact e), h4]
      simp [updF, e]
theorem run_len_cn {w : World} {b n : Nat} {f : Int → Option Nat} (h : CnS w b f n) (ty : TypeId) : (Builtin.len_ #[60] ty #[.map (some b)]).run Tryz.prog w = .ok (.int .i64 (n : Int)) w := by
  obtain ⟨D, h1, h2, h3, h4, h5⟩ := h
  rw [World.ownsMap.len h1 Tryz.underlying60 ty, h5]
end Go.Proofs.YtolgaapiedbkfaaGreat
/-
  Maps: an entry is made, then stored; a map of numbers to truth values. Condition: fewer than maxLen entries.
-/
namespace Go.Proofs.YtolgaapiedbkfaaGreat
open Go.RowKit Go.Kx Go.Maps
open Go.WideElems (Fit findIdx_born findIdx_arr modify_last set_self)
open Go.MapKept Go.ChangeMaps Go.ChangeShapes Go.WideShapes
set_option linter.unusedVariables false
set_option linter.unusedSimpArgs false
set_option maxRecDepth 100000
theorem ownsMap_heap {P : Program} {k : TypeId} {R : Value → Option (HD × List MemPlace)} {b n : Nat} {D : HD} {w w' : World} (h : w.ownsMap P k R b n D) (hb : w'.heap[b]? = w.heap[b]?) : w'.ownsMap P k R b n D := by
  obtain ⟨es, clock, h1, h2⟩ := h
  exact ⟨es, clock, hb.trans h1, h2⟩
theorem only_setBlock (w : World) (b : Nat) (o : Obj) : Only (fun x => x = b) w (setBlock w b o) :=
  ⟨rfl, rfl, rfl, by simp [setBlock], fun k _ hk => by
    show (w.heap.setIfInBounds b o)[k]? = _
    rw [Array.getElem?_setIfInBounds_ne (fun e => hk e.symm)]⟩
theorem setBlock_same (w : World) (b : Nat) (o : Obj) (h : b < w.heap.size) : (setBlock w b o).heap[b]? = some o := by
  show (w.heap.setIfInBounds b o)[b]? = _
  rw [Array.getElem?_setIfInBounds_self_of_lt h]
/-- 'm[k] = v' in two steps. -/
theorem entry_store {P : Program} {t k e : TypeId} {R : Value → Option (HD × List MemPlace)} {b n : Nat} {D : HD} {w : World} (h : w.ownsMap P k R b n D) (K : Keyed P k) (ht : P.underlying t = some (.map k e)) (hn : n < maxLen) {z : Value} (hz : ∀ u : World, (zeroValue e).run P u = .ok z u)
    {key : Value} {kl : Lit} (hkey : keyOf P k key = some kl) :
    ∃ (v0 : Value) (st : Nat) (M : Obj), (Instr.mapEntry t (.map (some b)) key).run P w = .ok (.tuple #[v0, goInt st]) (setBlock w b M) ∧
      ∀ (w2 : World) (val : Value) (d : HD) (ps : List MemPlace), R val = some (d, ps) → w2.heap[b]? = some M → ∃ M2, (Instr.entryStore t (.map (some b)) (goInt st) val).run P w2 = .ok () (setBlock w2 b M2) ∧
        ∀ w3 : World, w3.heap[b]? = some M2 → w3.ownsMap P k R b (n + 1) (D.put kl d) := by
  have hu := fun (val : Value) (d : HD) (ps : List MemPlace) (hv : R val = some (d, ps)) => h.update K ht hn hkey hv
  obtain ⟨es, clock, hb, F, hs, hD⟩ := h
  obtain ⟨s1, s2, _⟩ := F.stamped
  rcases K.find w hkey es.toList F.keys with ⟨h1, h2⟩ | ⟨j, e0, h1, h2, h3⟩
  · refine ⟨z, clock, .map (es.push ⟨key, z, clock⟩) (clock + 1), ?_, fun w2 val d ps hv hw2 => ⟨.map (es.push ⟨key, val, clock⟩) (clock + 1), ?_, ?_⟩⟩
    · simp [Instr.mapEntry, run_underlying ht, MapKept.run_getObj_map hb, K.check w false hkey, h1, hz, MapKept.run_setObj_map _ hb, Result.andThen, setBlock]
    · have hidx : (es.push ⟨key, z, clock⟩).findIdx? (fun e => ((e.born : Nat) : Int) == ((clock : Nat) : Int)) = some es.size := by
        rw [findIdx_arr]
        have := findIdx_born (l := (es.push ⟨key, z, clock⟩).toList) (j := es.size) (e0 := ⟨key, z, clock⟩) (by
          simp only [Array.toList_push, List.map_append, List.map_cons, List.map_nil]
          refine List.nodup_append.2 ⟨s2, by simp, fun a ha c hc e1 => ?_⟩
          simp only [List.mem_singleton] at hc
          obtain ⟨x, hx, rfl⟩ := List.mem_map.1 ha
          have := s1 x hx
          omega) (by simp)
        exact this
      have hmod : (es.push ⟨key, z, clock⟩).modify es.size (fun e => { e with val := val }) = es.push ⟨key, val, clock⟩ := by
        apply Array.ext'
        rw [Array.toList_modify, Array.toList_push, Array.toList_push, ← Array.length_toList, modify_last]
      simp [Instr.entryStore, MapKept.run_getObj_map hw2, asInt, asIntOf, goInt, hidx, hmod, MapKept.run_setObj_map _ hw2, Result.andThen, setBlock]
    · have hrun : (Instr.mapUpdate t (.map (some b)) key val).run P w = .ok () (setBlock w b (.map (es.push ⟨key, val, clock⟩) (clock + 1))) := by
        simp [Instr.mapUpdate, run_underlying ht, MapKept.run_getObj_map hb, K.check w false hkey, h1, MapKept.run_setObj_map _ hb, Result.andThen, setBlock]
      obtain ⟨w', hr, ho, _⟩ := hu val d ps hv
      rw [hrun] at hr
      cases hr
      intro w3 hw3
      exact ownsMap_heap ho (hw3.trans (heap_setBlock_same hb _).symm)
  · have hj : es[j]? = some e0 := by simpa using h2
    have hsame : es.modify j (fun e => { e with key := key }) = es := by
      apply Array.ext'
      rw [Array.toList_modify, modify_eq_set _ _ _ _ h2]
      have : ({ e0 with key := key } : MapEntry) = e0 := by rw [← h3]
      rw [this]
      exact set_self _ _ _ h2
    refine ⟨e0.val, e0.born, .map es clock, ?_, fun w2 val d ps hv hw2 => ⟨.map (es.modify j (fun e' => { e' with key := key, val := val })) clock, ?_, ?_⟩⟩
    · simp [Instr.mapEntry, run_underlying ht, MapKept.run_getObj_map hb, K.check w false hkey, h1, hj, h3, K.stays w hkey, hsame, MapKept.run_setObj_map _ hb, Result.andThen, setBlock]
    · have hidx : es.findIdx? (fun e => ((e.born : Nat) : Int) == ((e0.born : Nat) : Int)) = some j := by
        rw [findIdx_arr]
        exact findIdx_born s2 h2
      have hmod : es.modify j (fun e => { e with val := val }) = es.modify j (fun e' => { e' with key := key, val := val }) := by
        apply Array.ext'
        rw [Array.toList_modify, Array.toList_modify, modify_eq_set _ _ _ _ h2, modify_eq_set _ _ _ _ h2, ← h3]
      simp [Instr.entryStore, MapKept.run_getObj_map hw2, asInt, asIntOf, goInt, hidx, hmod, MapKept.run_setObj_map _ hw2, Result.andThen, setBlock]
    · have hrun : (Instr.mapUpdate t (.map (some b)) key val).run P w = .ok () (setBlock w b (.map (es.modify j (fun e' => { e' with key := key, val := val })) clock)) := by
        simp [Instr.mapUpdate, run_underlying ht, MapKept.run_getObj_map hb, K.check w false hkey, h1, hj, h3, K.stays w hkey, MapKept.run_setObj_map _ hb, Result.andThen, setBlock]
      obtain ⟨w', hr, ho, _⟩ := hu val d ps hv
      rw [hrun] at hr
      cases hr
      intro w3 hw3
      exact ownsMap_heap ho (hw3.trans (heap_setBlock_same hb _).symm)
/-- Block b is a map of numbers to truth values, of at most n entries. -/
def BmS (w : World) (b n : Nat) (g : Int → Bool) : Prop := ∃ D, w.ownsMap Tryz.prog 3 (plainElem (H := Unit) Tryz.prog 4) b n D ∧ IsMap D ∧ ∀ k, D.atKey (.int .i64 k) (.lit (.bool false)) = .lit (.bool (g k))
def updB (g : Int → Bool) (k : Int) (v : Bool) : Int → Bool := fun x => if x = k then v else g x
theorem BmS.lt {w : World} {b n : Nat} {g : Int → Bool} (h : BmS w b n g) : b < w.heap.size := by obtain ⟨D, h, _⟩ := h; exact World.ownsMap.lt h
theorem BmS.of_had {w : World} {b : Nat} {had : List Int} (h : HadAt w b had) : BmS w b had.length (fun k => decide (k ∈ had)) := ⟨_, h, hadD_map had, hadD_at had⟩
theorem BmS.new (w : World) : BmS (w.alloc (.map #[] 0)) w.heap.size 0 (fun _ => false) := ⟨.map [], World.ownsMap_made _ _ _ _, isMap_empty, fun k => by simp [DataW.atKey]⟩
theorem BmS.only {w w' : World} {q : Nat → Prop} {b n : Nat} {g : Int → Bool} (h : BmS w b n g) (ho : Only q w w') (hq : ¬ q b) : BmS w' b n g := by
  obtain ⟨D, h1, h2⟩ := h
  exact ⟨D, ownsMap_heap h1 (ho.block b (World.ownsMap.lt h1) hq), h2⟩
theorem run_lookup_bm {w : World} {b n : Nat} {g : Int → Bool} (h : BmS w b n g) (k : Int) (hk : (Lit.int .i64 k).wf = true) : (Instr.lookup 61 (.map (some b)) (.int .i64 k) false).run Tryz.prog w = .ok (.bool (g k)) w := by
  obtain ⟨D, h1, _, h3⟩ := h
  obtain ⟨v, ps, hrun, hv⟩ := World.ownsMap.lookup h1 (int_keyed Tryz.underlying3) Tryz.underlying61 (zeroB w) (plainElem_bool Tryz.underlying4 false) (keyOf_int_mk Tryz.underlying3 hk)
  obtain ⟨x, rfl, hx⟩ := plainElem_bool_inv Tryz.underlying4 hv
  rw [h3] at hx
  simp only [Prod.mk.injEq, DataW.lit.injEq, Lit.bool.injEq] at hx
  rw [hrun, hx.1]
theorem BmS.entry {w : World} {b n : Nat} {g : Int → Bool} (h : BmS w b n g) (hn : n < maxLen) (k : Int) (hk : (Lit.int .i64 k).wf = true) :
    ∃ (v0 : Value) (st : Nat) (M : Obj), (Instr.mapEntry 61 (.map (some b)) (.int .i64 k)).run Tryz.prog w = .ok (.tuple #[v0, goInt st]) (setBlock w b M) ∧
      ∀ (w2 : World) (v : Bool), w2.heap[b]? = some M → ∃ M2, (Instr.entryStore 61 (.map (some b)) (goInt st) (.bool v)).run Tryz.prog w2 = .ok () (setBlock w2 b M2) ∧
        ∀ w3 : World, w3.heap[b]? = some M2 → BmS w3 b (n + 1) (updB g k v) := by
  obtain ⟨D, h1, h2, h3⟩ := h
  obtain ⟨v0, st, M, hr, hs⟩ := entry_store h1 (int_keyed Tryz.underlying3) Tryz.underlying61 hn zeroB (keyOf_int_mk Tryz.underlying3 hk)
  refine ⟨v0, st, M, hr, fun w2 v hw2 => ?_⟩
  obtain ⟨M2, hr2, hs2⟩ := hs w2 (.bool v) _ _ (plainElem_bool Tryz.underlying4 v) hw2
  refine ⟨M2, hr2, fun w3 hw3 => ⟨_, hs2 w3 hw3, ?_, fun x => ?_⟩⟩
  · obtain ⟨es, rfl⟩ := h2; exact ⟨_, rfl⟩
  · by_cases e : x = k
    · subst e
      rw [atKey_put_same h2 (by simp [WideAt.IsKeyLit])]
      simp [updB]
    · rw [atKey_put_other (by simp; exact e), h3]
      simp [updB, e]
theorem CnS.entry {w : World} {b n : Nat} {f : Int → Option Nat} (h : CnS w b f n) (hn : n < maxLen) (k : Int) (hk : (Lit.int .i64 k).wf = true) (hf : f k = none) :
    ∃ (v0 : Value) (st : Nat) (M : Obj), (Instr.mapEntry 60 (.map (some b)) (.int .i64 k)).run Tryz.prog w = .ok (.tuple #[v0, goInt st]) (setBlock w b M) ∧
      ∀ (w2 : World) (p : Nat), w2.heap[b]? = some M → ∃ M2, (Instr.entryStore 60 (.map (some b)) (goInt st) (rp p)).run Tryz.prog w2 = .ok () (setBlock w2 b M2) ∧
        ∀ w3 : World, w3.heap[b]? = some M2 → CnS w3 b (updF f k (some p)) (n + 1) := by
  obtain ⟨D, h1, h2, h3, h4, h5⟩ := h
  obtain ⟨v0, st, M, hr, hs⟩ := entry_store h1 (int_keyed Tryz.underlying3) Tryz.underlying60 hn zeroPt (keyOf_int_mk Tryz.underlying3 hk)
  refine ⟨v0, st, M, hr, fun w2 p hw2 => ?_⟩
  obtain ⟨M2, hr2, hs2⟩ := hs w2 (rp p) (.lit (.int .i64 (p : Int))) [] rfl hw2
  exact ⟨M2, hr2, fun w3 hw3 => CnS.put (w := w3) h2 h3 h4 h5 k p (hs2 w3 hw3) hf⟩
end Go.Proofs.YtolgaapiedbkfaaGreat
