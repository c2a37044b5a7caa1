/-
  The walk of SnapPuts: it returns true, and changes nothing that lay there. Conditions: those of the State that is handed over.
-/
import Derived.Test.YtfilngbedlkhjaaSnL
namespace Go.Proofs.Ytfilngbedlkhjaa
open Go.RowKit Go.Kx
set_option linter.unusedVariables false
set_option linter.unusedSimpArgs false

/-- The State's block lies still; of the blocks of b none is changed. -/
def OB (b : World) (r : Nat) (C : Array Value) (wx : World) : Prop := wx.heap[r]? = some (.cells C 26 (0, 0)) ∧ Below b.heap.size b wx
theorem OB.step {b wx w' : World} {r : Nat} {C : Array Value} (h : OB b r C wx) (hb : Below wx.heap.size wx w') : OB b r C w' :=
  ⟨(hb.block r (Array.getElem?_eq_some_iff.1 h.1).1).trans h.1, h.2.trans (hb.mono h.2.size)⟩
theorem Sl.set {w : World} {v : Value} {l : List UInt8} (h : Sl w v l) {q : Addr} {u : Value} (hq : w.cell? q = some u) (hu : ∀ b, u ≠ B8 b) (x : Value) : Sl (w.setCell q x) v l := by
  obtain ⟨p, n, c, h1, h2, h3, h4⟩ := h
  refine ⟨p, n, c, h1, h2, fun i hi => ?_, h4⟩
  obtain ⟨a, ha, _, hc⟩ := h3 i hi
  refine ⟨a, ha, trivial, ?_⟩
  rw [World.cell?_setCell_other w q (a.add i) x (fun e => by rw [← e, hq] at hc; cases hc; exact hu _ rfl)]
  exact hc
theorem IsSt.set {w : World} {C : Array Value} {s : St} (h : IsSt w C s) {q : Addr} {u : Value} (hq : w.cell? q = some u) (hu : ∀ b, u ≠ B8 b) (x : Value) : IsSt (w.setCell q x) C s := by
  obtain ⟨lg, pt, us, hC, h1, h2, h3⟩ := h
  exact ⟨lg, pt, us, hC, h1.set hq hu x, h2.set hq hu x, h3.set hq hu x⟩

/-- What a load of a State comes to, where its block is known whole. -/
noncomputable def hidLoad (t : TypeId) (v : Value) (w : World) : Result Next := (do let x ← Instr.loadAt t v; pure (Next.value x) : Sem Next).run Try.prog w
noncomputable def stLoad (t : TypeId) (v : Value) (w : World) : Result Next :=
  match v with
  | .pointer (some ⟨r, 0, none⟩) => (match w.heap[r]? with
    | some (.cells C _ _) => if C.size = 234 then .ok (.value (.agg C)) w else hidLoad t v w
    | _ => hidLoad t v w)
  | _ => hidLoad t v w
theorem stLoad_eq (t : TypeId) (d : TypeDesc) (hu : Try.prog.underlying t = some d) (hd : d.isRow = true) (hi : (Try.prog.info? t).map (·.size) = some 234) (dst : Option Tmp) (x : Operand) (ty : TypeId) (pos : String) (after : Array Edge) (gd : Option (Nat × Bool)) (ρ : Operand → Value) (w : World) :
    (execOp ρ ⟨dst, .load t x, ty, pos, after, gd⟩).run Try.prog w = stLoad t (ρ x) w := by
  have h0 : (execOp ρ ⟨dst, .load t x, ty, pos, after, gd⟩).run Try.prog w = hidLoad t (ρ x) w := rfl
  rw [h0]
  generalize ρ x = v
  unfold stLoad
  split
  · rename_i r
    split
    · rename_i C t' fr hb
      split
      · rename_i hs
        have h1 := run_loadAt_mid (P := Try.prog) w r 0 t C.toList d (blk_range hb) hu hd (by rw [Array.length_toList, hs]; exact hi)
        unfold hidLoad
        rw [Sem.run_bind, h1, Array.toArray_toList]
        rfl
      · rfl
    · rfl
  · rfl
theorem exec_load26 (dst : Option Tmp) (x : Operand) (ty : TypeId) (pos : String) (after : Array Edge) (gd : Option (Nat × Bool)) (ρ : Operand → Value) (w : World) :
    (execOp ρ ⟨dst, .load 26 x, ty, pos, after, gd⟩).run Try.prog w = stLoad 26 (ρ x) w := stLoad_eq _ _ Try.underlying26 rfl Try.infoT _ _ _ _ _ _ _ _
theorem exec_load35 (dst : Option Tmp) (x : Operand) (ty : TypeId) (pos : String) (after : Array Edge) (gd : Option (Nat × Bool)) (ρ : Operand → Value) (w : World) :
    (execOp ρ ⟨dst, .load 35 x, ty, pos, after, gd⟩).run Try.prog w = stLoad 35 (ρ x) w := stLoad_eq _ _ Try.underlying35 rfl Try.infoS _ _ _ _ _ _ _ _
theorem stLoad_at (t : TypeId) (r : Nat) (w : World) : stLoad t (.pointer (some ⟨r, 0, none⟩)) w = (match w.heap[r]? with
    | some (.cells C _ _) => if C.size = 234 then .ok (.value (.agg C)) w else hidLoad t (.pointer (some ⟨r, 0, none⟩)) w
    | _ => hidLoad t (.pointer (some ⟨r, 0, none⟩)) w) := rfl
attribute [local go_sem ↓] exec_load26 exec_load35
attribute [local go_sem] stLoad_at

set_option maxHeartbeats 4000000 in
set_option maxRecDepth 100000 in
theorem puts_no (s : St) (C : Array Value) (x : Int) (w : World) (h : IsSt w C s) (hn : ¬ (okS s ∧ 1 ≤ x ∧ x ≤ 3)) : Calls Try.prog 4 #[.agg C, .int .i64 x] w fun e w' => e = .returned (.bool true) ∧ Below w.heap.size w w' := by
  have hB : Below w.heap.size w (w.alloc (.cells C 26)) := (Below.refl _ _).alloc (Nat.le_refl _) _
  have hob : OB (w.alloc (.cells C 26)) w.heap.size C (w.alloc (.cells C 26)) := ⟨heap_alloc_new w _, Below.refl _ _⟩
  have hsz := h.sz
  have HI := Lib.hid (And.intro (h.below hB) (And.intro hob (And.intro h.sz (And.intro hB hn))))
  clear h hB hob hn
  go_enter Try.func4, Try.ntmps4
  go_upto_region 2 with (first
    | (refine wpList_load_mid rfl 26 (.tmp 2) rfl w.heap.size 0 rfl C.toList _ (blk_range HI.out.2.1.1) Try.underlying26 rfl (by rw [Array.length_toList, HI.out.2.2.1]; exact Try.infoT) ?_; rw [Array.toArray_toList])
    | (go_at_call 9; refine (to_c s C _ HI.out.1).mono ?_; rintro e w1 ⟨rfl, b1⟩; have O1 := HI.out.2.1.step b1)
    | (go_at_call 8; refine (sput_no s C x _ (HI.out.1.below O1.2) HI.out.2.2.2.2).mono ?_; rintro e w2 ⟨rfl, b2⟩; have O2 := O1.step b2))
  go_upto_region 3 with (first
    | (refine wpList_load_mid rfl 26 (.tmp 2) rfl w.heap.size 0 rfl C.toList _ (blk_range O2.1) Try.underlying26 rfl (by rw [Array.length_toList, HI.out.2.2.1]; exact Try.infoT) ?_; rw [Array.toArray_toList])
    | (go_at_call 11; refine (tput_no s C x _ (HI.out.1.below O2.2) HI.out.2.2.2.2).mono ?_; rintro e w3 ⟨rfl, b3⟩; have O3 := O2.step b3))
  have hO := O3.step ((Below.refl _ w3).drew)
  have hO3 := O3
  have HS := Lib.hid (fun (wx : World) (ho : OB (w.alloc (.cells C 26)) w.heap.size C wx) => show wx.heap[w.heap.size]? = some (.cells C 26 (0, 0)) ∧ (convert 22 9 (.slice none 0 0)).run Try.prog wx = .ok (.string ⟨#[]⟩) wx from ⟨ho.1, run_str (l := []) (Rd.nil _ (fun _ => True) _) rfl⟩)
  clear O1 O2 O3 b1 b2 b3
  go_cut [54] (fun v54 wx => v54 = .bool false ∧ OB (w.alloc (.cells C 26)) w.heap.size C wx)
  case first =>
    go_region_held3 (fun w' => w'.heap[w.heap.size]? = some (.cells C 26 (0, 0)) ∧ (convert 22 9 (.slice none 0 0)).run Try.prog w' = .ok (.string ⟨#[]⟩) w')
      (first | exact HS.out _ hO | exact HS.out _ hO3 | go_keep)
      (first
        | (go_at_call 6; refine (snaps_c _).mono ?_; rintro e wN ⟨rfl, bN⟩; first | (have hO2 := hO.step bN; clear hO; have hO := hO2; clear hO2) | (have hO2 := hO3.step bN; clear hO; have hO := hO2; clear hO2))
        | (go_at_call 9; refine (to_c s C _ (HI.out.1.below hO.2)).mono ?_; rintro e wN ⟨rfl, bN⟩; have hO2 := hO.step bN; clear hO; have hO := hO2; clear hO2)
        | (go_at_call 12; refine (right_s C s _ (HI.out.1.below hO.2)).mono ?_; rintro e wN ⟨rfl, bN⟩; have hO2 := hO.step bN; clear hO; have hO := hO2; clear hO2)
        | (go_at_call 7; refine (rright_s C s _ (HI.out.1.below hO.2)).mono ?_; rintro e wN ⟨rfl, bN⟩; have hO2 := hO.step bN; clear hO; have hO := hO2; clear hO2))
    all_goals go_wp2
    all_goals go_meet
    all_goals exact ⟨rfl, hO⟩
  case rest =>
    obtain ⟨rfl, hO4⟩ := hcut
    go_wp2
    go_ret
    exact ⟨rfl, HI.out.2.2.2.1.trans (hO4.2.mono HI.out.2.2.2.1.size)⟩

set_option maxHeartbeats 4000000 in
set_option maxRecDepth 100000 in
theorem puts_yes (s : St) (C : Array Value) (v : Nat) (w : World) (h : IsSt w C s) (hs : okS s) (hv : 1 ≤ v ∧ v ≤ 3) : Calls Try.prog 4 #[.agg C, .int .i64 (v : Int)] w fun e w' => e = .returned (.bool true) ∧ Below w.heap.size w w' := by
  have hB : Below w.heap.size w (w.alloc (.cells C 26)) := (Below.refl _ _).alloc (Nat.le_refl _) _
  have hob : OB (w.alloc (.cells C 26)) w.heap.size C (w.alloc (.cells C 26)) := ⟨heap_alloc_new w _, Below.refl _ _⟩
  have hsz := h.sz
  have hlen := snB_bd s v hs h.len
  obtain ⟨X, hX⟩ : ∃ X, X = snB s v := ⟨_, rfl⟩
  obtain ⟨n, hn⟩ : ∃ n, X.length = n := ⟨_, rfl⟩
  rw [← hX, hn] at hlen
  have HI := Lib.hid (And.intro (h.below hB) (And.intro hob (And.intro h.sz (And.intro hB (And.intro hs (And.intro h.len (And.intro hX hn)))))))
  have HW := Lib.hid h
  have hzs := run_zeroS
  clear h hB hob hs hX hn
  go_enter Try.func4, Try.ntmps4
  go_upto_region 2 with (first
    | (refine wpList_load_mid rfl 26 (.tmp 2) rfl w.heap.size 0 rfl C.toList _ (blk_range HI.out.2.1.1) Try.underlying26 rfl (by rw [Array.length_toList, HI.out.2.2.1]; exact Try.infoT) ?_; rw [Array.toArray_toList])
    | (go_at_call 9; refine (to_c s C _ HI.out.1).mono ?_; rintro e w1 ⟨rfl, b1⟩; have O1 := HI.out.2.1.step b1)
    | (go_at_call 8; refine (sput_yes s C v _ (HI.out.1.below O1.2) HI.out.2.2.2.2.1 hv).mono ?_; rintro e w2 ⟨gB, nB, cB, rfl, kB, i1, i2, i3, i4, oB, b2⟩; have O2 := O1.step b2))
  have hr1 : w.heap.size < w1.heap.size := (Array.getElem?_eq_some_iff.1 O1.1).1
  rw [← HI.out.2.2.2.2.2.2.1] at kB oB
  obtain rfl : n = nB := HI.out.2.2.2.2.2.2.2.symm.trans kB
  go_upto_region 3 with (first
    | (refine wpList_load_mid rfl 26 (.tmp 2) rfl w.heap.size 0 rfl C.toList _ (blk_range O2.1) Try.underlying26 rfl (by rw [Array.length_toList, HI.out.2.2.1]; exact Try.infoT) ?_; rw [Array.toArray_toList])
    | (go_at_call 11; refine (tput_yes s C v _ (HI.out.1.below O2.2) HI.out.2.2.2.2.1 hv).mono ?_; rintro e w3 ⟨gW, nW, cW, rfl, kW, j1, j2, j3, j4, oW, b3⟩; have O3 := O2.step b3))
  rw [← HI.out.2.2.2.2.2.2.1] at kW oW
  obtain rfl : n = nW := kB.symm.trans kW
  have oB3 := Own.keep oB b3
  have hO3 : OB w3 w.heap.size C w3 := ⟨O3.1, Below.refl _ _⟩
  have hO := hO3.step ((Below.refl _ w3).drew)
  have HK := Lib.hid (And.intro oB3 (And.intro oW (And.intro kB O3)))
  have HS := Lib.hid (fun (wx : World) (ho : OB w3 w.heap.size C wx) => show wx.heap[w.heap.size]? = some (.cells C 26 (0, 0)) ∧ (convert 22 9 (.slice (some ⟨gB, 0, none⟩) n cB)).run Try.prog wx = .ok (.string ⟨X.toArray⟩) wx ∧ (convert 22 9 (.slice (some ⟨gW, 0, none⟩) n cW)).run Try.prog wx = .ok (.string ⟨X.toArray⟩) wx from ⟨ho.1, run_str (HK.out.1.rd.below ho.2) HK.out.2.2.1, run_str (HK.out.2.1.rd.below ho.2) HK.out.2.2.1⟩)
  have HIs := Lib.hid (fun (wx : World) (ho : OB w3 w.heap.size C wx) => (HI.out.1.below HK.out.2.2.2.2).below ho.2)
  clear O1 O2 O3 b1 b2 b3 oB oB3 oW kB kW
  go_cut [54] (fun v54 wx => v54 = .bool false ∧ OB w3 w.heap.size C wx)
  case first =>
    go_region_held3 (fun w' => w'.heap[w.heap.size]? = some (.cells C 26 (0, 0)) ∧ (convert 22 9 (.slice (some ⟨gB, 0, none⟩) n cB)).run Try.prog w' = .ok (.string ⟨X.toArray⟩) w' ∧ (convert 22 9 (.slice (some ⟨gW, 0, none⟩) n cW)).run Try.prog w' = .ok (.string ⟨X.toArray⟩) w')
      (first | exact HS.out _ hO | exact HS.out _ hO3 | go_keep)
      (first
        | (go_at_call 6; refine (snaps_c _).mono ?_; rintro e wN ⟨rfl, bN⟩; first | (have hO2 := hO.step bN; clear hO; have hO := hO2; clear hO2) | (have hO2 := hO3.step bN; clear hO; have hO := hO2; clear hO2))
        | (go_at_call 9; refine (to_c s C _ (HIs.out _ hO)).mono ?_; rintro e wN ⟨rfl, bN⟩; have hO2 := hO.step bN; clear hO; have hO := hO2; clear hO2)
        | (go_at_call 12; refine (right_s C s _ (HIs.out _ hO)).mono ?_; rintro e wN ⟨rfl, bN⟩; have hO2 := hO.step bN; clear hO; have hO := hO2; clear hO2)
        | (go_at_call 7; refine (rright_s C s _ (HIs.out _ hO)).mono ?_; rintro e wN ⟨rfl, bN⟩; have hO2 := hO.step bN; clear hO; have hO := hO2; clear hO2))
    all_goals go_wp2
    all_goals go_meet
    all_goals exact ⟨by simp, hO⟩
  case rest =>
    obtain ⟨rfl, hO4⟩ := hcut
    clear hO hO3
    go_upto_if 66 with (first
      | (go_at_call 10; refine (get_y (· = gB) _ n cB s v _ (by rw [← HI.out.2.2.2.2.2.2.1]; exact HK.out.1.rd.below hO4.2) (by intro h; cases h) (by rw [← HI.out.2.2.2.2.2.2.1, HI.out.2.2.2.2.2.2.2]; omega) (by rw [← HI.out.2.2.2.2.2.2.1]; exact HI.out.2.2.2.2.2.2.2) HI.out.2.2.2.2.1 HI.out.2.2.2.2.2.1 hv).mono ?_; rintro e w5 ⟨C5, rfl, h4, h5⟩; have HE := Lib.hid (And.intro (stored (t := 35) h4) (And.intro h4.sz (And.intro h4.one h5))); clear h4 h5)
      | (refine wpList_store_row rfl 35 (.tmp 9) (.tmp 62) rfl w5.heap.size C5 rfl rfl 35 zC (heap_alloc_new w5 _) (by rw [HE.out.2.1]; exact Try.infoS) (by rw [HE.out.2.1, zC_size]) HE.out.2.2.1 ?_))
    obtain ⟨lg, pt, us, hC, t1, t2, t3⟩ := id HW.out
    have B4 : Below w.heap.size w wc := (HI.out.2.2.2.1.trans (HK.out.2.2.2.2.mono HI.out.2.2.2.1.size)).trans (hO4.2.mono (HI.out.2.2.2.1.trans (HK.out.2.2.2.2.mono HI.out.2.2.2.1.size)).size)
    have B5 := B4.trans (HE.out.2.2.2.mono B4.size)
    have B6 := B5.trans (HE.out.1.2.2.mono B5.size)
    have hr5 : w.heap.size < w5.heap.size := Nat.lt_of_lt_of_le (Array.getElem?_eq_some_iff.1 hO4.1).1 HE.out.2.2.2.size
    have O6 := (hO4.step HE.out.2.2.2).step HE.out.1.2.2
    have hgr : gB ≠ w.heap.size := by omega
    have hblk5 := setRow_heap (w5.alloc (.cells zC 35)) w5.heap.size zC C5 35 (0, 0) (heap_alloc_new w5 _)
    have hP6 := And.intro (show StB ((w5.alloc (.cells zC 35)).setRow w5.heap.size C5) w.heap.size 26 s.ph lg s.sm s.a s.b s.c s.d s.sl pt us s.al from ⟨C, O6.1, hC⟩) (And.intro B6 (And.intro HE.out.1.2.1 (And.intro hblk5 (Own.keep HK.out.1 O6.2))))
    have HT := Lib.hid (And.intro t1 (And.intro t2 t3))
    have hus : ∃ p3 n3 c3, us = .slice p3 n3 c3 := by obtain ⟨p, n, c, h, _⟩ := t3; exact ⟨p, n, c, h⟩
    obtain ⟨p3, n3, c3, rfl⟩ := hus
    clear hC t1 t2 t3 B4 B5 B6 O6 hblk5 hO4
    generalize (w5.alloc (.cells zC 35)).setRow w5.heap.size C5 = w6 at hP6 ⊢
    go_cut [67] (fun v67 wx => ∃ al : Int, al = (if 3 ≤ v then s.al else -1) ∧ (StB wx w.heap.size 26 s.ph lg s.sm s.a s.b s.c s.d s.sl pt (.slice p3 n3 c3) al ∧ Below w.heap.size w wx ∧ IsSt wx C5 (upS s v) ∧ wx.heap[w5.heap.size]? = some (.cells C5 35 (0, 0)) ∧ Own wx gB (.slice (some ⟨gB, 0, none⟩) n cB) X))
    case first =>
      by_cases h3 : 3 ≤ v
      · have hb : decide ((v : Int) < 3) = false := decide_eq_false (by omega)
        go_wp2
        go_meet
        exact ⟨s.al, by rw [if_pos h3], hP6⟩
      · have hb : decide ((v : Int) < 3) = true := decide_eq_true (by omega)
        have f1 := hP6.1.fr 233
        have c1 := hP6.1.c233
        have HP := Lib.hid hP6
        clear hP6
        go_wp2
        go_meet
        have ho : Only (· = w.heap.size) w6 (w6.setCell ⟨w.heap.size, 233, none⟩ (.int .i64 (-1))) := (Only.refl (fun k => k = w.heap.size) w6).setCell _ _ (.inl rfl)
        exact ⟨-1, by rw [if_neg h3], HP.out.1.set233 (-1), below_only HP.out.2.1 HP.out.2.1.size ho (by intro k hk e; omega), HP.out.2.2.1.set c1 (by intro b h; cases h) _, (ho.block _ (Array.getElem?_eq_some_iff.1 HP.out.2.2.2.1).1 (by show ¬ w5.heap.size = _; omega)).trans HP.out.2.2.2.1, Own.only HP.out.2.2.2.2 ho hgr⟩
    case rest =>
      obtain ⟨al, hal, hP7⟩ := hcut
      have HAL := Lib.hid hal
      clear hal hP6
      go_upto_if 69 with (fail)
      go_cut [70] (fun v70 wx => ∃ (us : Value) (ul : List UInt8), ul = (if 2 ≤ v then s.us else []) ∧ (StB wx w.heap.size 26 s.ph lg s.sm s.a s.b s.c s.d s.sl pt us al ∧ Below w.heap.size w wx ∧ IsSt wx C5 (upS s v) ∧ wx.heap[w5.heap.size]? = some (.cells C5 35 (0, 0)) ∧ Own wx gB (.slice (some ⟨gB, 0, none⟩) n cB) X) ∧ Sl wx us ul)
      case first =>
        by_cases h2 : 2 ≤ v
        · have hb : decide ((v : Int) < 2) = false := decide_eq_false (by omega)
          go_wp2
          go_meet
          exact ⟨_, s.us, by rw [if_pos h2], hP7, HT.out.2.2.below hP7.2.1⟩
        · have hb : decide ((v : Int) < 2) = true := decide_eq_true (by omega)
          have f1 := hP7.1.fr 232
          have c1 := hP7.1.c232
          have HP := Lib.hid hP7
          clear hP7
          go_wp2
          go_meet
          have ho : Only (· = w.heap.size) wc (wc.setCell ⟨w.heap.size, 232, none⟩ (.slice none 0 0)) := (Only.refl (fun k => k = w.heap.size) _).setCell _ _ (.inl rfl)
          exact ⟨.slice none 0 0, [], by rw [if_neg h2], ⟨HP.out.1.set232 _, below_only HP.out.2.1 HP.out.2.1.size ho (by intro k hk e; omega), HP.out.2.2.1.set c1 (by intro b h; cases h) _, (ho.block _ (Array.getElem?_eq_some_iff.1 HP.out.2.2.2.1).1 (by show ¬ w5.heap.size = _; omega)).trans HP.out.2.2.2.1, Own.only HP.out.2.2.2.2 ho hgr⟩, Sl.nil _⟩
      case rest =>
        obtain ⟨us, ul, hul, hP8, hsl⟩ := hcut
        obtain ⟨C2, hb2, hC2⟩ := hP8.1
        have hI2 : IsSt wc C2 (upS s v) := ⟨lg, pt, us, by rw [HAL.out] at hC2; exact hC2, HT.out.1.below hP8.2.1, HT.out.2.1.below hP8.2.1, by rw [hul] at hsl; exact hsl⟩
        have hok := upS_ok HI.out.2.2.2.2.1 v
        have hm : (upS s v).sm.length = 224 := HI.out.2.2.2.2.2.1
        have hup : upS (upS s v) 3 = upS s v := by simp [upS]
        have hl3 := snB_bd (upS s v) 3 hok hm
        obtain ⟨Y, hY⟩ : ∃ Y, Y = snB (upS s v) 3 := ⟨_, rfl⟩
        rw [← hY] at hl3
        have HG1 := Lib.hid (fun ver sealed s' y (hgo : Go1 X ver s' sealed y) => show getE s' sealed y = 0 ∧ s' = upS s v by
          rw [HI.out.2.2.2.2.2.2.1] at hgo
          obtain ⟨g1, g2, _⟩ := full_getE HI.out.2.2.2.2.1 HI.out.2.2.2.2.2.1 hv hgo
          exact ⟨g1, g2⟩)
        have HG2 := Lib.hid (fun ver sealed s' y (hgo : Go1 Y ver s' sealed y) => show getE s' sealed y = 0 ∧ s' = upS s v by
          rw [hY] at hgo
          obtain ⟨g1, g2, _⟩ := full_getE hok hm (by omega) hgo
          exact ⟨g1, by rw [g2, hup]⟩)
        have HY := Lib.hid (And.intro hY (And.intro hup (And.intro hok hm)))
        have HL := Lib.hid hl3
        have H2 := Lib.hid (And.intro hb2 (And.intro hI2 (And.intro hP8.2.1 (And.intro hP8.2.2.1 (And.intro hP8.2.2.2.1 hP8.2.2.2.2)))))
        have hsz5 : C5.size = 234 := HE.out.2.1
        have hsz2 : C2.size = 234 := hC2.size
        clear hP7 hP8 hb2 hC2 hI2 hsl hul hY hok hm hup hl3
        go_upto_region 13 with (go_at_call 13; refine (up_yes (· = gB) _ n cB X (upS s v) _ H2.out.2.2.2.2.2.rd (by intro h; cases h) (by rw [HI.out.2.2.2.2.2.2.2]; omega) HI.out.2.2.2.2.2.2.2 HY.out.2.2.1 HG1.out).mono ?_; rintro e wU ⟨gU, nU, cU, rfl, kU, d1, d2, d3, d4, oU, bU⟩)
        rw [← HY.out.1] at kU oU
        have HU := Lib.hid (And.intro kU (And.intro oU bU))
        have hnU : nU ≤ 25000 := by rw [← kU]; exact HL.out.2
        clear kU oU bU
        go_upto_region 14 with (go_at_call 13; refine (up_yes (· = gU) _ nU cU Y (upS s v) _ HU.out.2.1.rd (by intro h; cases h) (by rw [HU.out.1]; omega) HU.out.1 HY.out.2.2.1 HG2.out).mono ?_; rintro e wV ⟨gV, nV, cV, rfl, kV, a1, a2, a3, a4, oV, bV⟩)
        rw [← HY.out.1] at kV oV
        have HV := Lib.hid (And.intro kV (And.intro oV bV))
        clear kV oV bV
        go_upto_region 15 with (first
          | (go_at_call 10; refine (get_y (· = gU) _ nU cU (upS s v) 3 _ (by rw [← HY.out.1]; exact HU.out.2.1.rd.below HV.out.2.2) (by intro h; cases h) (by rw [← HY.out.1, HU.out.1]; omega) (by rw [← HY.out.1]; exact HU.out.1) HY.out.2.2.1 HY.out.2.2.2 (by omega)).mono ?_; rintro e wG ⟨CG, rfl, h4, h5⟩; rw [HY.out.2.1] at h4; have HF := Lib.hid (And.intro (stored (t := 35) h4) (And.intro h4.sz (And.intro h4.one h5))); clear h4 h5)
          | (refine wpList_store_row rfl 35 (.tmp 16) (.tmp 84) rfl wG.heap.size CG rfl rfl 35 zC (heap_alloc_new wG _) (by rw [HF.out.2.1]; exact Try.infoS) (by rw [HF.out.2.1, zC_size]) HF.out.2.2.1 ?_))
        obtain rfl : nU = nV := HU.out.1.symm.trans HV.out.1
        have B1 := HU.out.2.2.trans (HV.out.2.2.mono HU.out.2.2.size)
        have B2 := B1.trans (HF.out.2.2.2.mono B1.size)
        have B3 := B2.trans (HF.out.1.2.2.mono B2.size)
        have V1 := HV.out.2.2.trans (HF.out.2.2.2.mono HV.out.2.2.size)
        have V2 := V1.trans (HF.out.1.2.2.mono V1.size)
        have U2 := HF.out.2.2.2.trans (HF.out.1.2.2.mono HF.out.2.2.2.size)
        have hszG : CG.size = 234 := HF.out.2.1
        have hZ := And.intro ((B3.block _ (Array.getElem?_eq_some_iff.1 H2.out.1).1).trans H2.out.1) (And.intro ((B3.block _ (Array.getElem?_eq_some_iff.1 H2.out.2.2.2.2.1).1).trans H2.out.2.2.2.2.1) (And.intro (setRow_heap (wG.alloc (.cells zC 35)) wG.heap.size zC CG 35 (0, 0) (heap_alloc_new wG _)) (And.intro (HU.out.2.1.rd.below V2) (And.intro (HV.out.2.1.rd.below U2) (And.intro (H2.out.2.1.below B3) (And.intro (H2.out.2.2.2.1.below B3) (And.intro HF.out.1.2.1 (H2.out.2.2.1.trans (B3.mono H2.out.2.2.1.size)))))))))
        clear B1 B2 B3 V1 V2 U2
        generalize (wG.alloc (.cells zC 35)).setRow wG.heap.size CG = wZ at hZ ⊢
        have HZ := Lib.hid hZ
        have HSS := Lib.hid (fun (wx : World) (hb : Below wZ.heap.size wZ wx) => show wx.heap[w.heap.size]? = some (.cells C2 26 (0, 0)) ∧ wx.heap[w5.heap.size]? = some (.cells C5 35 (0, 0)) ∧ wx.heap[wG.heap.size]? = some (.cells CG 35 (0, 0)) ∧ (convert 22 9 (.slice (some ⟨gU, 0, none⟩) nU cU)).run Try.prog wx = .ok (.string ⟨Y.toArray⟩) wx ∧ (convert 22 9 (.slice (some ⟨gV, 0, none⟩) nU cV)).run Try.prog wx = .ok (.string ⟨Y.toArray⟩) wx from
          ⟨(hb.block _ (Array.getElem?_eq_some_iff.1 HZ.out.1).1).trans HZ.out.1, (hb.block _ (Array.getElem?_eq_some_iff.1 HZ.out.2.1).1).trans HZ.out.2.1, (hb.block _ (Array.getElem?_eq_some_iff.1 HZ.out.2.2.1).1).trans HZ.out.2.2.1, run_str (HZ.out.2.2.2.1.below hb) HU.out.1, run_str (HZ.out.2.2.2.2.1.below hb) HU.out.1⟩)
        have hO3 : Below wZ.heap.size wZ wZ := Below.refl _ _
        have hO : Below wZ.heap.size wZ wZ.drew := (Below.refl _ _).drew
        clear hZ
        go_region_held3 (fun w' => w'.heap[w.heap.size]? = some (.cells C2 26 (0, 0)) ∧ w'.heap[w5.heap.size]? = some (.cells C5 35 (0, 0)) ∧ w'.heap[wG.heap.size]? = some (.cells CG 35 (0, 0)) ∧ (convert 22 9 (.slice (some ⟨gU, 0, none⟩) nU cU)).run Try.prog w' = .ok (.string ⟨Y.toArray⟩) w' ∧ (convert 22 9 (.slice (some ⟨gV, 0, none⟩) nU cV)).run Try.prog w' = .ok (.string ⟨Y.toArray⟩) w')
          (first | exact HSS.out _ hO | exact HSS.out _ hO3 | go_keep)
          (first
            | (go_at_call 15; have hq := hS1; refine (from_c (upS s v) CG _ (HZ.out.2.2.2.2.2.2.2.1.below hO)).mono ?_; rintro e wN ⟨rfl, bN⟩; have hO2 := hO.trans (bN.mono hO.size); clear hO; have hO := hO2; clear hO2; have hF2 := True.intro)
            | (go_at_call 14; have hq := hF2; refine (same_c (upS s v) CG C2 _ (HZ.out.2.2.2.2.2.2.2.1.below hO) (HZ.out.2.2.2.2.2.1.below hO)).mono ?_; rintro e wN ⟨rfl, bN⟩; have hO2 := hO.trans (bN.mono hO.size); clear hO; have hO := hO2; clear hO2)
            | (go_at_call 15; refine (from_c (upS s v) C5 _ (HZ.out.2.2.2.2.2.2.1.below hO)).mono ?_; rintro e wN ⟨rfl, bN⟩; have hO2 := hO.trans (bN.mono hO.size); clear hO; have hO := hO2; clear hO2; have hF1 := True.intro)
            | (go_at_call 14; have hq := hF1; refine (same_c (upS s v) C5 C2 _ (HZ.out.2.2.2.2.2.2.1.below hO) (HZ.out.2.2.2.2.2.1.below hO)).mono ?_; rintro e wN ⟨rfl, bN⟩; have hO2 := hO.trans (bN.mono hO.size); clear hO; have hO := hO2; clear hO2; have hS1 := True.intro))
        all_goals go_wp2
        all_goals go_ret
        all_goals exact ⟨by simp, HZ.out.2.2.2.2.2.2.2.2.trans (hO.mono HZ.out.2.2.2.2.2.2.2.2.size)⟩
end Go.Proofs.Ytfilngbedlkhjaa
