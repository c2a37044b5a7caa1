/-
  StreamSingles returns true and changes nothing that was there. Conditions: the slice of kinds lies in memory as the row hands it over.
-/
import Derived.Test.YtcgdeebjgcgepaaPiecesA
import Derived.Test.YtcgdeebjgcgepaaSpecC
import Derived.Test.YtcgdeebjgcgepaaZeros
namespace Go.Proofs.Ytcgdeebjgcgepaa
open Go.RowKit Go.Kx

theorem Try.info3 : (Try.prog.info? 3).map (fun i => (i.zero, i.size, i.bytes)) = some (some (.int .i64 0), 1, 8) := by kernel_rfl

theorem cells_new (w : World) (l : List Value) (t : TypeId) : ∀ j u, l[j]? = some u → (w.alloc (.cells l.toArray t)).cell? ((⟨w.heap.size, 0, none⟩ : Addr).add j) = some u := by
  intro j u h
  have : (⟨w.heap.size, 0, none⟩ : Addr).add j = ⟨w.heap.size, j, none⟩ := by unfold Addr.add; split <;> simp_all
  rw [this, World.cell?_alloc_at _ _ _ _ rfl]
  simpa using h

/-- The relation of the second loop: v13 how many records were taken, v14 where it is. -/
def Rel2 (wc : World) (r K : Nat) (F : List UInt8) (v13 v14 : Value) (w2 : World) : Prop :=
  ∃ a j g I, v13 = .int .i64 ((a : Nat) : Int) ∧ v14 = .int .i64 ((I : Nat) : Int) ∧ I = a * (5 + K) + j ∧ a ≤ F.length ∧ j < 5 + K ∧ (a = F.length → j = 0) ∧ wc.heap.size ≤ g ∧
    Rdr w2 r g ((flat K (F.drop a)).take j) 0 ∧ Below wc.heap.size wc w2
/-- The relation of the third loop: v20 where it is in the wrong beginning. -/
def Rel3 (wc : World) (r q : Nat) (v20 : Value) (w3 : World) : Prop :=
  ∃ j g, v20 = .int .i64 ((j : Nat) : Int) ∧ j ≤ (wrongs q).length ∧ wc.heap.size ≤ g ∧ (j < (wrongs q).length → Rdr w3 r g ((wrongs q).take j) 0) ∧ Below wc.heap.size wc w3
theorem Rd.lit' (w : World) (l : List UInt8) (g : Nat) (h : w.heap.size = g) : Rd (w.alloc (.cells (l.map B8).toArray 5)) (· = g) (some ⟨g, 0, none⟩) l := by
  subst h; exact Go.Kx.Rd.lit w l
theorem khop (n : Int) : ∃ K : Nat, wrap64 ((IntKind.u64.wrap n).tmod 30) = (K : Int) ∧ K < 30 := by
  have h0 : 0 ≤ IntKind.u64.wrap n := by rw [IntKind.wrap_u64]; omega
  rw [Int.tmod_eq_emod_of_nonneg h0]
  generalize IntKind.u64.wrap n = y at h0
  have h1 : 0 ≤ y % 30 ∧ y % 30 < 30 := ⟨Int.emod_nonneg _ (by omega), Int.emod_lt_of_pos _ (by omega)⟩
  generalize y % 30 = x at h1
  rw [IntWalk.wrap64_in x ⟨by omega, by omega⟩]
  exact ⟨x.toNat, by omega, by omega⟩
theorem qhop (n : Int) : ∃ q : Nat, (IntKind.u64.wrap n).tmod 5 = (q : Int) ∧ q < 5 := by
  have h0 : 0 ≤ IntKind.u64.wrap n := by rw [IntKind.wrap_u64]; omega
  rw [Int.tmod_eq_emod_of_nonneg h0]
  generalize IntKind.u64.wrap n = y at h0
  have h1 : 0 ≤ y % 5 ∧ y % 5 < 5 := ⟨Int.emod_nonneg _ (by omega), Int.emod_lt_of_pos _ (by omega)⟩
  exact ⟨(y % 5).toNat, by omega, by omega⟩
def ends (K i : Nat) : List Value := (List.range i).map fun j => .int .i64 (((j + 1) * (5 + K) : Nat) : Int)
theorem ends_snoc (K i : Nat) : ends K (i + 1) = ends K i ++ [.int .i64 (((i + 1) * (5 + K) : Nat) : Int)] := by unfold ends; rw [List.range_succ, List.map_append]; rfl

/-- The relation of the first loop: v7 the bytes, v8 where they end, v10 the round. -/
def Rel1 (w : World) (kl : List UInt8) (K m : Nat) (v7 v8 v10 : Value) (wr : World) : Prop :=
  ∃ i gB gE, v10 = .int .i64 ((i : Nat) : Int) ∧ i ≤ m ∧ w.heap.size ≤ gB ∧ w.heap.size ≤ gE ∧ Own wr gB v7 (flat K (kl.take i)) ∧ Row wr 3 1 gE v8 i (ends K i) ∧ (0 < i → gB ≠ gE ∧ gE < wr.heap.size) ∧ (i = 0 → v8 = .slice none 0 0) ∧ Below w.heap.size w wr

set_option maxRecDepth 100000 in
set_option maxHeartbeats 20000000 in
theorem singles (p0 : Option Addr) (n0 c0 : Nat) (l0 : List UInt8) (n bad : Int) (w : World) (h0 : Rd w (· < w.heap.size) p0 l0) (hn0 : l0.length = n0) (hm0 : c0 ≤ maxLen) (hc0 : n0 ≤ c0) :
    Calls Try.prog 4 #[.slice p0 n0 c0, .int .i64 n, .int .i64 bad] w fun e w' => e = .returned (.bool true) ∧ Below w.heap.size w w' := by
  unfold maxLen at hm0
  have HN := Lib.hid hn0
  have H0 := Lib.hid h0
  clear h0 hn0
  obtain ⟨K, hK, hK30⟩ := khop n
  have HK := Lib.hid hK
  clear hK
  go_enter Try.func4, Try.ntmps4
  go_upto_region 4 with (fail)
  rw [HK.out]
  go_wp2_with fail
  go_loopw [7, 8, 10] (fun v7 v8 v10 wr => Rel1 w l0 K (min n0 8) v7 v8 v10 wr) (fun _ _ v10 _ => 8 - (intOf v10).toNat)
  case atStart => exact ⟨0, w.heap.size, w.heap.size + 1, rfl, by omega, by omega, by omega, Own.nil _ _, Row.nil _ _ _ _, by omega, fun _ => rfl, Below.refl _ _⟩
  case round =>
    obtain ⟨i, gB, gE, rfl, him, hgB, hgE, hO, hR, hne, hnil, hB⟩ := hrel
    have HO := Lib.hid hO
    have HR := Lib.hid hR
    have HNE := Lib.hid hne
    have HNL := Lib.hid hnil
    have HB := Lib.hid hB
    have hz := hB.size
    clear hO hR hne hnil hB
    by_cases hgo : i < n0 ∧ i < 8
    · obtain ⟨g1, g2⟩ := hgo
      have hil : i < l0.length := by have := HN.out; omega
      obtain ⟨b, o, rfl, _, hlt, hat⟩ := H0.out.at (by omega)
      have d0 := (HB.out.cell (p := ⟨b, o + i, none⟩) (by show b < w.heap.size; assumption)).trans (hat i hil)
      clear hat
      generalize hxe : l0[i] = x at d0
      have HXE := Lib.hid hxe
      clear hxe
      have hx := x.toNat_lt
      have i0 : (0 : Int) ≤ (i : Int) := by omega
      have i1 : (i : Int) < (n0 : Int) := by omega
      have e1 : (x.toNat : Int).tmod 4 = (x.toNat : Int) % 4 := Int.tmod_eq_emod_of_nonneg (by omega)
      have e2 : IntKind.u8.wrap (20 + (x.toNat : Int) % 4) = 20 + (x.toNat : Int) % 4 := by rw [IntKind.wrap_u8]; omega
      have e3 : IntKind.u8.wrap (K : Int) = (K : Int) := by rw [IntKind.wrap_u8]; omega
      go_wp2
      have hO1 : Row (wr.drew.alloc (.cells #[.int .u8 (20 + (x.toNat : Int) % 4), .int .u8 3, .int .u8 (x.toNat : Int), .int .u8 0, .int .u8 (K : Int)] 5)) 5 1 gB u7 (flat K (l0.take i)).length ((flat K (l0.take i)).map B8) :=
        Row.only HO.out (Only.alloc (Only.drew (Only.refl (fun _ => False) wr)) _) (fun h => h)
      have HO1 := Lib.hid hO1
      have hfl : (flat K (l0.take i)).length ≤ 400 := by
        rw [flat_length]
        have h1 : (l0.take i).length ≤ 8 := by rw [List.length_take]; omega
        have h2 := Nat.mul_le_mul h1 (show 5 + K ≤ 40 by omega)
        omega
      clear hO1
      go_region_law ((refine step_append_row rfl _ _ 22 rfl 5 (.int .u8 0) 1 1 Try.underlying22 Try.info5 rfl (by decide) gB u7 _ _ (by simp [Act.eval]) HO1.out ⟨wr.heap.size, 0, none⟩ 5 5 [.int .u8 (20 + (x.toNat : Int) % 4), .int .u8 3, .int .u8 (x.toNat : Int), .int .u8 0, .int .u8 (K : Int)] (by simp [Act.eval]) rfl (cells_new wr.drew _ _) (by simp [Value.oneCell']) (by simp only [maxLen]; omega) (by omega) (wr.heap.size + 1) (by simp) ?_; intro gB' v7' w7 hrow hg' hO7))
      all_goals
        have hown7 : Own w7 gB' v7' (flat K (l0.take i) ++ [kindB x, 3, x, 0, UInt8.ofNat K]) := by
          have e5 : ((flat K (l0.take i)).map B8 ++ [.int .u8 (20 + (x.toNat : Int) % 4), .int .u8 3, .int .u8 (x.toNat : Int), .int .u8 0, .int .u8 (K : Int)]) = (flat K (l0.take i) ++ [kindB x, 3, x, 0, UInt8.ofNat K]).map B8 := by
            have k1 := kindB_nat x
            have k2 : (UInt8.ofNat K).toNat = K := by rw [UInt8.toNat_ofNat']; omega
            rw [List.map_append]
            congr 1
            simp only [List.map_cons, List.map_nil, B8, k1, k2]
            simp
          rw [e5] at hrow
          have : (flat K (l0.take i) ++ [kindB x, 3, x, 0, UInt8.ofNat K]).length = (flat K (l0.take i)).length + 5 := by simp
          unfold Own
          rw [this]
          exact hrow
        obtain ⟨gB2, v2, w8, hrun, hO8, hg8, hN8⟩ := run_append_zeros w7 22 3 22 .i64 .i64 Try.underlying22 Try.underlying3 Try.info5 gB' v7' _ hown7 K (by simp; omega)
        have hcat : (flat K (l0.take i) ++ [kindB x, 3, x, 0, UInt8.ofNat K]) ++ List.replicate K 0 = flat K (l0.take (i + 1)) := by
          rw [List.take_succ_eq_append_getElem hil, HXE.out, flat_snoc, List.append_assoc]
          rfl
        rw [hcat] at hO8
        have hT : (flat K (l0.take (i + 1))).length = (i + 1) * (5 + K) := by rw [flat_length, List.length_take]; congr 1; omega
        have hv2 : v2 ≠ .slice none 0 0 := by
          rintro rfl
          have := hO8.1.1
          simp only [List.length_map] at this
          rcases hO8.1.2 with ⟨_, h⟩ | ⟨_, _, _, h, _⟩
          · rw [hT, Nat.add_mul] at h; omega
          · cases h
        obtain ⟨c2, rfl, k1, k2, k3⟩ := hO8.shape hv2
        have z7 := hO7.size
        have z8 := hN8.size
        simp only [World.size_alloc, World.size_drew] at z7
        obtain ⟨T, hTe⟩ : ∃ T, T = (flat K (l0.take (i + 1))).length := ⟨_, rfl⟩
        rw [← hTe] at hO8 k1 hrun
        have hTb : T ≤ 400 := by
          rw [hTe, hT]
          have h2 := Nat.mul_le_mul (show i + 1 ≤ 8 by omega) (show 5 + K ≤ 40 by omega)
          omega
        obtain ⟨gE2, hRE, hne2⟩ : ∃ gE2, Row w8 3 1 gE2 u8 i (ends K i) ∧ (gE2 ≠ gB2 ∧ w.heap.size ≤ gE2 ∧ (gE2 < w8.heap.size ∨ i = 0)) := by
          by_cases hi0 : i = 0
          · subst hi0
            rw [HNL.out rfl]
            exact ⟨gB2 + 1, Row.nil _ _ _ _, by omega, by omega, .inr rfl⟩
          · obtain ⟨hn1, hn2⟩ := HNE.out (by omega)
            have hEB : ¬ gE = gB := fun e => hn1 e.symm
            have hw7 := Row.only HR.out (((Only.drew (Only.refl (· = gB) wr)).alloc _).then hO7) hEB
            exact ⟨gE, Row.only hw7 hN8 (by omega), by omega, hgE, .inl (by omega)⟩
        have HRE := Lib.hid hRE
        have HNE2 := Lib.hid hne2
        have HO8 := Lib.hid hO8
        have HG := Lib.hid (And.intro hg' hg8)
        have HB8 := Lib.hid (below_only (below_only ((HB.out.drew).alloc (by simp; omega) _) (by simp; omega) hO7 (by intro k hk e; omega)) (by omega) hN8 (by intro k hk e; omega))
        have HTT := Lib.hid (And.intro hTe hT)
        have hK47 : i ≤ 8 := by omega
        clear hrow hg' hg8 hO7 hN8 hRE hne2 hO8 hown7 hT hTe hcat k1 k2 hv2 e1 e2 e3
        go_wp2_with (first | (at_builtin; refine Lib.wpList_append_run w7 rfl _ _ 22 3 rfl _ _ rfl rfl _ w8 hrun ?_) | (at_builtin; refine wpList_append_row rfl _ _ 23 rfl 3 (.int .i64 0) 1 8 Try.underlying23 Try.info3 rfl (by decide) gE2 u8 i (ends K i) rfl (Row.only HRE.out (Only.alloc (Only.refl (fun _ => False) w8) _) (fun h => h)) ⟨w8.heap.size, 0, none⟩ 1 1 [.int .i64 (T : Int)] rfl rfl (cells_new w8 _ _) (by simp [Value.oneCell']) (by simp only [maxLen]; omega) (by omega) (w8.heap.size + 1) (by simp) ?_; intro gE' v8' w9 hrow9 hg9 hO9))
        obtain ⟨n1, n2, n3⟩ := HNE2.out
        obtain ⟨t1, t2⟩ := HTT.out
        have hG := HG.out
        have hg9' : gE' = gE2 ∨ gE' = w8.heap.size + 1 := hg9
        have z9 := hO9.size
        simp only [World.size_alloc] at z9
        obtain ⟨_, _, _, hf, _⟩ := Row.form hrow9
        refine ⟨⟨i + 1, gB2, gE', by simp, by omega, by omega, by omega, ?_, ?_, fun _ => ⟨by omega, (hf (by omega)).2⟩, fun h => by omega, ?_⟩, by simp [intOf]; omega⟩
        · exact HO8.out.only ((Only.alloc (Only.refl (· = gE2) w8) _).then hO9) (by omega)
        · rw [ends_snoc, ← t2, ← t1]; exact hrow9
        · exact below_only (HB8.out.alloc (by omega) _) (by simp; omega) hO9 (by intro k hk e; omega)
    · have hmi : i = min n0 8 := by omega
      have HMI := Lib.hid hmi
      clear hmi
      go_upto_region 5 with (fail)
      go_cut [36] (fun v wx => v = .bool false ∧ wr = wx)
      case first =>
        have hgo' : n0 ≤ i ∨ 8 ≤ i := by omega
        clear hgo
        by_cases hc : i < n0
        · have hc8 : ¬ (i : Int) < 8 := by omega
          go_wp2_with fail
          go_meet
          exact ⟨congrArg Value.bool (by first | (simp; done) | (simp; omega)), rfl⟩
        · go_wp2_with fail
          go_meet
          exact ⟨rfl, rfl⟩
      case rest =>
      obtain ⟨rfl, rfl⟩ := hcut
      obtain ⟨q, hq, hq5⟩ := qhop bad
      go_upto_region 10 with (fail)
      go_cut [11] (fun v11 wx => ∃ gw : Nat, v11 = .slice (some ⟨gw, 0, none⟩) (wrongs q).length (wrongs q).length ∧ Rd wx (· = gw) (some ⟨gw, 0, none⟩) (wrongs q) ∧ wr.heap.size ≤ gw ∧ gw < wx.heap.size ∧ Below wr.heap.size wr wx)
      case first =>
        have hqc : q = 0 ∨ q = 1 ∨ q = 2 ∨ q = 3 ∨ q = 4 := by omega
        rcases hqc with rfl | rfl | rfl | rfl | rfl
        · go_wp2_with fail
          go_meet
          exact ⟨wr.heap.size, rfl, (Rd.lit' _ [19] (wr.heap.size) (by first | omega | (simp only [World.size_alloc]; done) | (simp only [World.size_alloc]; omega))).below ((((((Below.refl _ _).alloc (by first | omega | (simp only [World.size_alloc]; done) | (simp only [World.size_alloc]; omega)) _).alloc (by first | omega | (simp only [World.size_alloc]; done) | (simp only [World.size_alloc]; omega)) _).alloc (by first | omega | (simp only [World.size_alloc]; done) | (simp only [World.size_alloc]; omega)) _).alloc (by first | omega | (simp only [World.size_alloc]; done) | (simp only [World.size_alloc]; omega)) _).alloc (by first | omega | (simp only [World.size_alloc]; done) | (simp only [World.size_alloc]; omega)) _), by omega, by simp only [World.size_alloc]; omega, (((((((Below.refl _ _).alloc (by first | omega | (simp only [World.size_alloc]; done) | (simp only [World.size_alloc]; omega)) _).alloc (by first | omega | (simp only [World.size_alloc]; done) | (simp only [World.size_alloc]; omega)) _).alloc (by first | omega | (simp only [World.size_alloc]; done) | (simp only [World.size_alloc]; omega)) _).alloc (by first | omega | (simp only [World.size_alloc]; done) | (simp only [World.size_alloc]; omega)) _).alloc (by first | omega | (simp only [World.size_alloc]; done) | (simp only [World.size_alloc]; omega)) _).alloc (by first | omega | (simp only [World.size_alloc]; done) | (simp only [World.size_alloc]; omega)) _)⟩
        · go_wp2_with fail
          go_meet
          exact ⟨wr.heap.size + 1, rfl, (Rd.lit' _ [24] (wr.heap.size + 1) (by first | omega | (simp only [World.size_alloc]; done) | (simp only [World.size_alloc]; omega))).below (((((Below.refl _ _).alloc (by first | omega | (simp only [World.size_alloc]; done) | (simp only [World.size_alloc]; omega)) _).alloc (by first | omega | (simp only [World.size_alloc]; done) | (simp only [World.size_alloc]; omega)) _).alloc (by first | omega | (simp only [World.size_alloc]; done) | (simp only [World.size_alloc]; omega)) _).alloc (by first | omega | (simp only [World.size_alloc]; done) | (simp only [World.size_alloc]; omega)) _), by omega, by simp only [World.size_alloc]; omega, (((((((Below.refl _ _).alloc (by first | omega | (simp only [World.size_alloc]; done) | (simp only [World.size_alloc]; omega)) _).alloc (by first | omega | (simp only [World.size_alloc]; done) | (simp only [World.size_alloc]; omega)) _).alloc (by first | omega | (simp only [World.size_alloc]; done) | (simp only [World.size_alloc]; omega)) _).alloc (by first | omega | (simp only [World.size_alloc]; done) | (simp only [World.size_alloc]; omega)) _).alloc (by first | omega | (simp only [World.size_alloc]; done) | (simp only [World.size_alloc]; omega)) _).alloc (by first | omega | (simp only [World.size_alloc]; done) | (simp only [World.size_alloc]; omega)) _)⟩
        · go_wp2_with fail
          go_meet
          exact ⟨wr.heap.size + 1 + 1, rfl, (Rd.lit' _ [23, 2] (wr.heap.size + 1 + 1) (by first | omega | (simp only [World.size_alloc]; done) | (simp only [World.size_alloc]; omega))).below ((((Below.refl _ _).alloc (by first | omega | (simp only [World.size_alloc]; done) | (simp only [World.size_alloc]; omega)) _).alloc (by first | omega | (simp only [World.size_alloc]; done) | (simp only [World.size_alloc]; omega)) _).alloc (by first | omega | (simp only [World.size_alloc]; done) | (simp only [World.size_alloc]; omega)) _), by omega, by simp only [World.size_alloc]; omega, (((((((Below.refl _ _).alloc (by first | omega | (simp only [World.size_alloc]; done) | (simp only [World.size_alloc]; omega)) _).alloc (by first | omega | (simp only [World.size_alloc]; done) | (simp only [World.size_alloc]; omega)) _).alloc (by first | omega | (simp only [World.size_alloc]; done) | (simp only [World.size_alloc]; omega)) _).alloc (by first | omega | (simp only [World.size_alloc]; done) | (simp only [World.size_alloc]; omega)) _).alloc (by first | omega | (simp only [World.size_alloc]; done) | (simp only [World.size_alloc]; omega)) _).alloc (by first | omega | (simp only [World.size_alloc]; done) | (simp only [World.size_alloc]; omega)) _)⟩
        · go_wp2_with fail
          go_meet
          exact ⟨wr.heap.size + 1 + 1 + 1, rfl, (Rd.lit' _ [23, 3, 0, 1, 18] (wr.heap.size + 1 + 1 + 1) (by first | omega | (simp only [World.size_alloc]; done) | (simp only [World.size_alloc]; omega))).below (((Below.refl _ _).alloc (by first | omega | (simp only [World.size_alloc]; done) | (simp only [World.size_alloc]; omega)) _).alloc (by first | omega | (simp only [World.size_alloc]; done) | (simp only [World.size_alloc]; omega)) _), by omega, by simp only [World.size_alloc]; omega, (((((((Below.refl _ _).alloc (by first | omega | (simp only [World.size_alloc]; done) | (simp only [World.size_alloc]; omega)) _).alloc (by first | omega | (simp only [World.size_alloc]; done) | (simp only [World.size_alloc]; omega)) _).alloc (by first | omega | (simp only [World.size_alloc]; done) | (simp only [World.size_alloc]; omega)) _).alloc (by first | omega | (simp only [World.size_alloc]; done) | (simp only [World.size_alloc]; omega)) _).alloc (by first | omega | (simp only [World.size_alloc]; done) | (simp only [World.size_alloc]; omega)) _).alloc (by first | omega | (simp only [World.size_alloc]; done) | (simp only [World.size_alloc]; omega)) _)⟩
        · go_wp2_with fail
          go_meet
          exact ⟨wr.heap.size + 1 + 1 + 1 + 1, rfl, (Rd.lit' _ [21, 3, 0, 1, 1] (wr.heap.size + 1 + 1 + 1 + 1) (by first | omega | (simp only [World.size_alloc]; done) | (simp only [World.size_alloc]; omega))).below ((Below.refl _ _).alloc (by first | omega | (simp only [World.size_alloc]; done) | (simp only [World.size_alloc]; omega)) _), by omega, by simp only [World.size_alloc]; omega, (((((((Below.refl _ _).alloc (by first | omega | (simp only [World.size_alloc]; done) | (simp only [World.size_alloc]; omega)) _).alloc (by first | omega | (simp only [World.size_alloc]; done) | (simp only [World.size_alloc]; omega)) _).alloc (by first | omega | (simp only [World.size_alloc]; done) | (simp only [World.size_alloc]; omega)) _).alloc (by first | omega | (simp only [World.size_alloc]; done) | (simp only [World.size_alloc]; omega)) _).alloc (by first | omega | (simp only [World.size_alloc]; done) | (simp only [World.size_alloc]; omega)) _).alloc (by first | omega | (simp only [World.size_alloc]; done) | (simp only [World.size_alloc]; omega)) _)⟩
      case rest =>
      obtain ⟨gw, rfl, hRW, hgw1, hgw2, hBW⟩ := hcut
      obtain ⟨F, hF⟩ : ∃ F, F = l0.take i := ⟨_, rfl⟩
      have hFl : F.length = i := by rw [hF, List.length_take]; have := HN.out; omega
      have hO2 := HO.out.only (Only.of_below (r := fun _ => False) (hBW)) (fun h => h)
      rw [← hF] at hO2
      have hE2 := Row.only HR.out (Only.of_below (r := fun _ => False) hBW) (fun h => h)
      have hBB := HB.out.trans (hBW.mono hz)
      obtain ⟨pb, cb, rfl, hTc, hcm, hrdb, hpn, hpp⟩ := hO2.form
      obtain ⟨pe, ce, rfl, hpe, hce⟩ := Row.form hE2
      obtain ⟨T, hT⟩ : ∃ T, T = (flat K F).length := ⟨_, rfl⟩
      rw [← hT] at hTc ⊢
      have hT' : T = i * (5 + K) := by rw [hT, flat_length, hFl]
      have hT4 : T ≤ 400 := by
        rw [hT']
        have h2 := Nat.mul_le_mul (show i ≤ 8 by omega) (show 5 + K ≤ 40 by omega)
        omega
      have hi8 : i ≤ 8 := by omega
      have hin : i ≤ n0 := by omega
      obtain ⟨wl, hwl⟩ : ∃ wl, wl = wrongs q := ⟨_, rfl⟩
      obtain ⟨M, hM⟩ : ∃ M, M = (wrongs q).length := ⟨_, rfl⟩
      rw [← hM] at ⊢
      have hM5 : 1 ≤ M ∧ M ≤ 5 := by rw [hM]; exact wrongs_len q
      obtain ⟨hM1, hM2⟩ := hM5
      have HF := Lib.hid hF
      have HFL := Lib.hid hFl
      have HRD := Lib.hid hrdb
      have HPE := Lib.hid hpe
      have HCE := Lib.hid hce
      have HPP := Lib.hid hpp
      have HTT := Lib.hid (And.intro hT hT')
      have HMM := Lib.hid hM
      have HRW := Lib.hid hRW
      have HBB := Lib.hid hBB
      have hzc := hBB.size
      have hrow0 : RowKit.Hid (∀ a (h : a < F.length), ∃ b o, p0 = some ⟨b, o, none⟩ ∧ b < w.heap.size ∧ w.cell? ⟨b, o + a, none⟩ = some (.int .u8 (F[a].toNat : Int))) := by
        intro a h
        have hl : a < l0.length := by rw [HFL.out] at h; have := HN.out; omega
        obtain ⟨b, o, rfl, _, hlt, hat⟩ := H0.out.at (by omega)
        refine ⟨b, o, rfl, hlt, ?_⟩
        rw [hat a hl]
        have hF := HF.out
        subst hF
        rw [List.getElem_take]
      clear hF hFl hO2 hE2 hBB hrdb hpe hce hpp hT hT' hM hRW hBW hwl HO HR HNE HNL HB hpn hgo
      go_wp2_with fail
      refine (new_c (fun _ => False) none 0 0 [] _ (Rd.nil _ _ _) (fun _ => rfl) (by simp) rfl).mono ?_
      rintro e wn ⟨r, gr, rfl, hr1, hr2, hgr1, hRR, hbn⟩
      have HRR := Lib.hid hRR
      have HBN := Lib.hid hbn
      have hz3 := hbn.size
      clear hRR hbn
      go_wp2_with fail
      go_loopw [13, 14] (fun v13 v14 w2 => Rel2 wc r K F v13 v14 w2) (fun _ v14 _ => T - (intOf v14).toNat)
      case atStart =>
        refine ⟨0, 0, gr, 0, rfl, rfl, by simp, by omega, by omega, fun _ => rfl, hgr1, by simpa using HRR.out, HBN.out⟩
      case round =>
        obtain ⟨a, j, g, I, rfl, rfl, hI, haF, hj, haj, hg, hRd, hB2⟩ := hrel
        have HI := Lib.hid hI
        have HRd := Lib.hid hRd
        have HB2 := Lib.hid hB2
        have hz4 := hB2.size
        clear hI hRd hB2
        by_cases hlt : I < T
        · have haF' : a < F.length := by
            rcases Nat.lt_or_ge a F.length with h | h
            · exact h
            · have e := HTT.out.1
              have e2 := HI.out
              rw [flat_length] at e
              have : a = F.length := by omega
              rw [haj this, this] at e2
              omega
          have hlF : I < (flat K F).length := by have := HTT.out.1; omega
          obtain ⟨X, hX⟩ : ∃ X, X = F[a] := ⟨_, rfl⟩
          have hfeed := flat_feed K F a j I HI.out hlF
          have htk := flat_take K F a (j + 1) haF' (by omega)
          rw [← hX] at htk
          obtain ⟨gB', hpb⟩ : ∃ gB', pb = some ⟨gB', 0, none⟩ := by
            cases pb with
            | none => have := HRD.out.none_nil; rw [this] at hlF; simp at hlF
            | some a => exact ⟨gB, by rw [(HPP.out a rfl).1]⟩
          subst hpb
          have hrx := (Rd.drop I HRD.out).take 1
          rw [take1 _ _ hlF, Nat.zero_add] at hrx
          have hrx2 := (hrx.mono (T := fun k => k < wc.heap.size) (fun k hk _ => hk)).kept (w' := wr) (fun k hk hs => HB2.out.block k hs)
          have HX := Lib.hid hX
          have HFD := Lib.hid hfeed
          have HTK := Lib.hid htk
          have HRX := Lib.hid hrx2
          have hcI : ¬ cb = I := by omega
          have hTI : I + 1 ≤ cb := by omega
          -- where the record ends
          obtain ⟨E, hE⟩ : ∃ E, E = (a + 1) * (5 + K) := ⟨_, rfl⟩
          have hIE : I + 1 ≤ E ∧ (I + 1 = E ↔ j + 1 = 5 + K) := by
            have := HI.out
            rw [hE, Nat.add_mul, Nat.one_mul]; omega
          have hai : a < i := by have := HFL.out; omega
          have hends : (ends K i)[a]? = some (.int .i64 (E : Int)) := by
            unfold ends
            rw [List.getElem?_map, List.getElem?_range hai, hE]
            rfl
          obtain ⟨hpe1, hpe2⟩ := HPE.out (by omega)
          subst hpe1
          have hce1 := (HB2.out.cell (p := ⟨gE, a, none⟩) (by assumption)).trans (HCE.out a _ hends)
          obtain ⟨bk, ok, hp0, hbk, hck⟩ := hrow0.out a haF'
          subst hp0
          have hck1 := (HB2.out.cell (p := ⟨bk, ok + a, none⟩) (by show bk < wc.heap.size; omega)).trans ((HBB.out.cell (p := ⟨bk, ok + a, none⟩) (by show bk < w.heap.size; assumption)).trans hck)
          rw [← hX] at hck1
          have hE4 : E ≤ 400 := by
            rw [hE]
            have h2 := Nat.mul_le_mul (show a + 1 ≤ 8 by omega) (show 5 + K ≤ 40 by omega)
            omega
          have hkb : ((kindB X).toNat : Int) = 20 + (X.toNat : Int) % 4 := by rw [kindB_nat]; omega
          have hX8 := X.toNat_lt
          have e1 : (X.toNat : Int).tmod 4 = (X.toNat : Int) % 4 := Int.tmod_eq_emod_of_nonneg (by omega)
          have hl4 : ((flat K (F.drop a)).take j).length ≤ 40 := by rw [List.length_take]; omega
          have hl5 : ((flat K (F.drop a)).take (j + 1)).length ≤ 40 := by rw [List.length_take]; omega
          obtain ⟨hIE1, hIE2⟩ := hIE
          have HIE := Lib.hid hIE2
          have HE := Lib.hid hE
          have HEN := Lib.hid hends
          have HCK := Lib.hid hck
          clear hfeed htk hrx hrx2 hX hE hIE2 hends hck
          go_wp2_with fail
          refine (feed_c r g _ _ _ _ _ [(flat K F)[I]] _ HRd.out HRX.out rfl (by intro h; cases h) (by simp only [List.length_cons, List.length_nil]; omega)).mono ?_
          rintro e w3 ⟨rfl, g3, hR3, hg3, hO3⟩
          rw [HFD.out] at hR3
          have hb3 := below_only HB2.out hz4 hO3 (by intro k hk e; omega)
          have HR3 := Lib.hid hR3
          have HB3 := Lib.hid hb3
          have HG3 := Lib.hid hg3
          have z3 := hO3.size
          clear hR3 hb3 hg3 hO3
          by_cases hfull : j + 1 < 5 + K
          · have hne : ¬ (I : Int) + 1 = (E : Int) := by have := HIE.out; omega
            have hne2 : ((I : Int) + 1 == (E : Int)) = false := by simpa using hne
            have htake := takeS_part K X (j + 1) hK30 hfull
            rw [← HTK.out] at htake
            have HTA := Lib.hid htake
            clear htake hkb e1
            go_wp2_with fail
            refine (take_none r g3 _ 0 _ HR3.out (by omega) HTA.out).mono ?_
            rintro e w4 ⟨rfl, hR4, hO4⟩
            have hb4 := below_only HB3.out (by omega) hO4 (by intro k hk e; omega)
            have hce4 := (hb4.cell (p := ⟨gE, a, none⟩) (by assumption)).trans (HCE.out a _ HEN.out)
            have HR4 := Lib.hid hR4
            have HB4 := Lib.hid hb4
            clear hR4 hO4 hb4 hce1
            go_wp2
            have hii := HI.out
            have hgg := HG3.out
            refine ⟨⟨a, j + 1, g3, I + 1, rfl, by simp, by omega, haF, hfull, fun h => by omega, by omega, HR4.out, HB4.out⟩, by simp [intOf]; omega⟩
          · have hjK : j + 1 = 5 + K := by omega
            have heq : E = I + 1 := by have := HIE.out; omega
            subst heq
            have htake := takeS_full K X hK30
            rw [← List.take_of_length_le (l := recOf K X) (show (recOf K X).length ≤ j + 1 by rw [recOf_length]; omega), ← HTK.out] at htake
            have HTA := Lib.hid htake
            have HJK := Lib.hid hjK
            clear htake hjK
            go_wp2_with fail
            refine (take_yes r g3 _ (kindB X) (List.replicate K 0) [] _ HR3.out (by omega) HTA.out).mono ?_
            rintro e w4 ⟨g4, k4, g5, rfl, ho4, h41, h42, h43, h44, hR4, hO4⟩
            rw [hkb, List.length_replicate]
            have hb4 := below_only HB3.out (by omega) hO4 (by intro k hk e; omega)
            have hce4 := (hb4.cell (p := ⟨gE, a, none⟩) (by assumption)).trans (HCE.out a _ HEN.out)
            have hck4 := (hb4.cell (p := ⟨bk, ok + a, none⟩) (by show bk < wc.heap.size; omega)).trans ((HBB.out.cell (p := ⟨bk, ok + a, none⟩) (by show bk < w.heap.size; assumption)).trans HCK.out)
            rw [← HX.out] at hck4
            have HR4 := Lib.hid hR4
            have HB4 := Lib.hid hb4
            clear hR4 hO4 hb4 hce1 ho4 hkb hck1 e1
            have hxb1 : (0 : Int) ≤ (X.toNat : Int) := by omega
            have hxb2 : (X.toNat : Int) ≤ 255 := by omega
            go_wp2
            have hjk := HJK.out
            have hEo := HE.out
            refine ⟨⟨a + 1, 0, g5, I + 1, by simp, by simp, by omega, by omega, by omega, fun _ => rfl, by omega, by simpa using HR4.out, HB4.out⟩, by simp [intOf]; omega⟩
        · have haE : a = F.length := by
            rcases Nat.lt_or_ge a F.length with h | h
            · have h1 := flat_bound K F a j h hj
              have h2 := HTT.out.1
              have h3 := HI.out
              omega
            · omega
          have hj0 := haj haE
          subst hj0
          have hR0 : Rdr wr r g [] 0 := by simpa using HRd.out
          have hai : a = i := by rw [haE]; exact HFL.out
          subst hai
          have HR0 := Lib.hid hR0
          clear hR0 haE haj haF hj HRd HI hrow0 HCE HPE HRD HPP HTT HFL HF
          go_wp2_with fail
          go_loopw [20] (fun v20 w3 => Rel3 wc r q v20 w3) (fun v20 _ => M - (intOf v20).toNat)
          case atStart =>
            exact ⟨0, g, rfl, by omega, hg, fun _ => by simpa using HR0.out, HB2.out⟩
          case round =>
            obtain ⟨j, g3, rfl, hjM, hg3, hR3, hB3⟩ := hrel
            have HR3 := Lib.hid hR3
            have HB3 := Lib.hid hB3
            have z3 := hB3.size
            rw [← HMM.out] at hjM
            clear hR3 hB3
            by_cases hlt3 : j < M
            · have hjw : j < (wrongs q).length := by rw [← HMM.out]; exact hlt3
              have hR3' := HR3.out hjw
              have hrx := (Rd.drop j HRW.out).take 1
              rw [take1 _ _ hjw, Nat.zero_add] at hrx
              have hrx3 := (hrx.mono (T := fun k => k < wc.heap.size) (fun k hk _ => hk)).kept (fun k hk hs => HB3.out.block k hs)
              have hfeed := wrong_feed q j hjw
              have hwl := wrongs_len q
              have hl4 : ((wrongs q).take j).length ≤ 5 := by rw [List.length_take]; omega
              have hl5 : ((wrongs q).take (j + 1)).length ≤ 5 := by rw [List.length_take]; omega
              have hMj : ¬ M = j := by omega
              have HFD := Lib.hid hfeed
              have HRX := Lib.hid hrx3
              have HR3b := Lib.hid hR3'
              clear hrx hrx3 hfeed hR3' hwl
              go_wp2_with fail
              refine (feed_c r g3 _ _ _ _ _ [(wrongs q)[j]] _ HR3b.out HRX.out rfl (by intro h; cases h) (by simp only [List.length_cons, List.length_nil]; omega)).mono ?_
              rintro e w5 ⟨rfl, g5, hR5, hg5, hO5⟩
              rw [HFD.out] at hR5
              have hb5 := below_only HB3.out z3 hO5 (by intro k hk e; omega)
              have HR5 := Lib.hid hR5
              have HB5 := Lib.hid hb5
              have HG5 := Lib.hid hg5
              have z5 := hO5.size
              clear hR5 hb5 hg5 hO5
              by_cases hlast : j + 1 < M
              · have htake := wrongs_part q (j + 1) (by rw [← HMM.out]; exact hlast)
                have HTA := Lib.hid htake
                have hjb : ((j : Int) == (M : Int) - 1) = false := by rw [beq_eq_false_iff_ne]; omega
                clear htake
                go_wp2_with fail
                refine (take_none r g5 _ 0 _ HR5.out (by omega) HTA.out).mono ?_
                rintro e w6 ⟨rfl, hR6, hO6⟩
                have hb6 := below_only HB5.out (by omega) hO6 (by intro k hk e; omega)
                have HR6 := Lib.hid hR6
                have HB6 := Lib.hid hb6
                clear hR6 hO6 hb6
                go_wp2
                have hgg := HG5.out
                refine ⟨⟨j + 1, g5, by simp, by rw [← HMM.out]; omega, by omega, fun _ => HR6.out, HB6.out⟩, by simp [intOf]; omega⟩
              · obtain ⟨E, hE1, hE2⟩ := wrongs_full q
                have htk : (wrongs q).take (j + 1) = wrongs q := List.take_of_length_le (by rw [← HMM.out]; omega)
                rw [← htk] at hE1
                have hEb : (E != 0) = true := by simpa using hE2
                have hjb : ((j : Int) == (M : Int) - 1) = true := by rw [beq_iff_eq]; omega
                have HTA := Lib.hid hE1
                clear hE1 hE2 htk
                go_wp2_with fail
                refine (take_none r g5 _ E _ HR5.out (by omega) HTA.out).mono ?_
                rintro e w6 ⟨rfl, hR6, hO6⟩
                have hb6 := below_only HB5.out (by omega) hO6 (by intro k hk e; omega)
                have HB6 := Lib.hid hb6
                clear hR6 hO6 hb6
                go_wp2
                refine ⟨⟨j + 1, g3, by simp, by rw [← HMM.out]; omega, by omega, fun h => by rw [← HMM.out] at h; omega, HB6.out⟩, by simp [intOf]; omega⟩
            · clear HR3
              go_wp2_with fail
              refine (takes_c _).mono ?_
              rintro e w7 ⟨rfl, hB7⟩
              have HB7 := Lib.hid hB7
              clear hB7
              go_wp2
              go_ret
              exact ⟨rfl, HBB.out.trans ((HB3.out.mono hzc).trans (HB7.out.mono (by omega)))⟩
end Go.Proofs.Ytcgdeebjgcgepaa
