/-
  finder.snapshot: of what Freeze sealed. Conditions: those of each theorem.
-/
import Derived.Test.YtolgaapiedbkfaaGreatZHstO
import Derived.Test.YtolgaapiedbkfaaGreatZHstM
namespace Go.Kx
open Go.RowKit
theorem step_store_mid {P : Program} {ops : Array Oper} {op : Oper} {a : Act} {w : World} {K : Act → World → Prop} {Q : Exit → Act → World → Prop} {E : Prop} (hgd : op.guard = none) (ty : TypeId) (x y : Operand) (ho : op.op = .store ty x y)
    (b o : Nat) (cells : Array Value) (hx : a.eval x = .pointer (some ⟨b, o, none⟩)) (hy : a.eval y = .agg cells)
    (ht : w.there b o cells.size) (hi : (P.info? ty).map (·.size) = some cells.size) (h1 : cells.all (·.oneCell') = true)
    (h : K (a.put op.dst undef) (w.setCells b o cells.toList)) : if Region.wanted op (yielded ops a.tmps) = true then Oper.wp P op a w K Q else E := by
  have hw : Region.wanted op (yielded ops a.tmps) = true := by simp [Region.wanted, hgd]
  rw [if_pos hw]
  exact wp_store_mid ty x y ho b o cells hx hy ht hi h1 h
end Go.Kx
namespace Go.Proofs.YtolgaapiedbkfaaGreat
open Go.RowKit Go.Kx Go.Maps
open Go.ChangeMaps (setBlock)
set_option linter.unusedVariables false
set_option linter.unusedSimpArgs false
set_option maxRecDepth 100000
theorem Blk.setCells {b t : Nat} : ∀ (vs : List Value) (o : Nat) (w : World) (X : Array Value), Blk w b t X → ∃ Y, Y.size = X.size ∧ Blk (w.setCells b o vs) b t Y
  | [], o, w, X, h => ⟨X, rfl, h⟩
  | v :: vs, o, w, X, h => by
    obtain ⟨Y, h1, h2⟩ := Blk.setCells vs (o + 1) _ _ (h.set o v)
    exact ⟨Y, by rw [h1]; simp, h2⟩
/-- What Get tells of what Freeze put. -/
def SgR (w : World) (e : Ending) (w' : World) : Prop := ∃ C, e = .returned (.tuple #[.agg C, .int .i64 3, .int .i64 0]) ∧ C.size = 234 ∧ C.all (·.oneCell') = true ∧ Below w.heap.size w w'
theorem Sl.one {w : World} {v : Value} {l : List UInt8} (h : Sl w v l) : v.oneCell' = true := by
  obtain ⟨p, n, c, rfl, _⟩ := h
  rfl
theorem sget_c (S : Nat → Prop) (p : Option Addr) (c : Nat) (w : World) (hR : Rd w S p snX) (hp : p = none → c = 0) : Calls Tryz.prog 120 #[.slice p 240 c] w (SgR w) := by
  refine (get_c S p 240 c snX w hR hp (by rw [snX_len]; decide) snX_len).mono ?_
  rintro e w1 ⟨ver, sealed, s', y, C, x, h1, h2, rfl, h3, h4, h5⟩
  obtain ⟨g1, g2, g3, g4⟩ := get_full nS_ok (by unfold nS; simp) (by decide) h1
  have g5 : getE s' sealed y = 0 := by
    subst g3 g4
    unfold getE
    rw [if_neg (by simp [doneS]), if_neg (by intro h; rcases h with h | h; omega; exact h (upS_ok nS_ok 3))]
  rw [g5, if_pos rfl] at h3
  rw [g5, if_pos rfl] at h4
  rw [g5]
  subst h3 g1
  obtain ⟨lg, pt, us, k1, k2, k3, k4⟩ := h4
  exact ⟨C, rfl, k1.size, k1.one k2.one k3.one k4.one, h5⟩
theorem FI.key {w : World} {F h mc mh ml md j cnt cnts nc nh nl nd : Nat} {f : Int → Option Nat} {gh gl gd : Int → Bool} (hi : FI w F h mc mh ml md j cnt cnts f nc nh nl nd gh gl gd) : w.rangeAt h 1 ((k7.map B8).toArray).toList := fun x v hx => by
  obtain ⟨ch, hb⟩ := hi.hb
  have hj : x < 32 := by have := (List.getElem?_eq_some_iff.1 hx).1; simpa [k7] using this
  rw [hb.c, hoV_low j ch tkF tkF_len mc mh cnt cnts (.slice none 0 0) false x hj]
  simpa using hx
theorem vo_c (c : Nat) (T : Nat → Prop) (g o k : Nat) (w : World) (hc : c ≤ 65535) (hR : Rd w T (some ⟨g, o, none⟩) (frE c)) (hk : 268 ≤ k) :
    Calls Tryz.prog 118 #[.agg (vK.map B8).toArray, .slice (some ⟨g, o, none⟩) 268 k] w (VopR w 0 c 1 frT) := vOpen_c vK 0 c 1 T g o 242 268 k frT w vK_len ⟨by decide, hc, by decide⟩ hR frT_len (by decide) (by decide) rfl hk
theorem vec_0 (r g : Nat) (w : World) (hr : Cur w r g frT 0) : Calls Tryz.prog 119 #[rp r, .int .i64 2, .int .i64 0, .int .i64 32768] w (ToldR w r g [] snX 0) := by
  have h := vector_c r g frT 0 2 0 32768 w hr (by rw [frT_len]; decide)
  have e : vecS frT 0 2 0 32768 = ([], snX, 0) := by
    have h2 : (be 0 2).length = 2 := be_length 0 2
    have b1 : badS frT 0 2 = 0 := by unfold badS; rw [if_neg (by omega), if_neg (by rw [frT_len]; omega)]
    have o1 : outS frT 0 2 = be 0 2 := by unfold outS; rw [if_pos b1]; unfold frT; exact List.take_left' h2
    have l1 : leftS frT 0 2 = snX := by unfold leftS; rw [if_pos b1]; unfold frT; exact List.drop_left' h2
    have w1 : wb 0 2 = 0 := by decide
    have n0 : beN (be 0 2) = 0 := by decide
    have b2 : badS snX 0 0 = 0 := by unfold badS; rw [if_neg (by omega), if_neg (by omega)]
    unfold vecS
    simp only [w1, b1, o1, l1, n0]
    rw [show ((0 : Nat) : Int) = 0 from rfl, b2, if_neg (by omega)]
    unfold outS leftS
    rw [if_pos b2, if_pos b2]
    rfl
  rw [e] at h
  exact h
theorem bytes_all (r g : Nat) (l : List UInt8) (n : Nat) (w : World) (hr : Cur w r g l 0) (hn : l.length = n) (hl : n ≤ 100000) : Calls Tryz.prog 76 #[rp r, .int .i64 (n : Int)] w (ToldR w r g l [] 0) := by
  have h := bytes_c r g l 0 (n : Int) w hr (by omega)
  have b1 : badS l 0 (n : Int) = 0 := by unfold badS; rw [if_neg (by omega), if_neg (by omega)]
  have o1 : outS l 0 (n : Int) = l := by unfold outS; rw [if_pos b1, Int.toNat_natCast]; exact List.take_of_length_le (by omega)
  have l1 : leftS l 0 (n : Int) = [] := by unfold leftS; rw [if_pos b1, Int.toNat_natCast]; exact List.drop_of_length_le (by omega)
  rw [b1, o1, l1] at h
  exact h
def TolR (w : World) (r g n : Nat) (l : List UInt8) (e : Ending) (w' : World) : Prop := ∃ g' p c, e = .returned (.slice p n c) ∧ w.heap.size ≤ g' ∧ Go.Kx.Own w' g' (.slice p n c) l ∧ Cur w' r g [] 0 ∧ Only (· = r) w w'
theorem bytes_240 (r g : Nat) (w : World) (hr : Cur w r g snX 0) : Calls Tryz.prog 76 #[rp r, .int .i64 240] w (TolR w r g 240 snX) := by
  have h := bytes_all r g snX 240 w hr snX_len (by decide)
  unfold ToldR at h
  rw [snX_len] at h
  exact h
theorem bytes_268 (r g c : Nat) (w : World) (hr : Cur w r g (frE c) 0) : Calls Tryz.prog 76 #[rp r, .int .i64 268] w (TolR w r g 268 (frE c)) := by
  have h := bytes_all r g (frE c) 268 w hr (frE_len c) (by decide)
  unfold ToldR at h
  rw [frE_len] at h
  exact h
theorem left_240 (r g : Nat) (w : World) (hr : Cur w r g snX 0) : Calls Tryz.prog 77 #[rp r] w fun e w' => e = .returned (.int .i64 240) ∧ w' = w := (left_c r g snX 0 w hr).mono fun e w' h => ⟨by rw [h.1, snX_len]; rfl, h.2.symm⟩
theorem left_268 (r g c : Nat) (w : World) (hr : Cur w r g (frE c) 0) : Calls Tryz.prog 77 #[rp r] w fun e w' => e = .returned (.int .i64 268) ∧ w' = w := (left_c r g (frE c) 0 w hr).mono fun e w' h => ⟨by rw [h.1, frE_len]; rfl, h.2.symm⟩
/-- What snapshot tells. -/
def SnR (F h mc mh ml md j cnt cnts nc nh nl nd b : Nat) (f : Int → Option Nat) (gh gl gd : Int → Bool) (c : Nat) (w : World) (e : Ending) (w' : World) : Prop :=
  e = .returned (.bool true) ∧ FI w' F h mc mh ml md j cnt cnts f nc nh (nl + 1) (nd + 1) gh (updB gl (c : Int) false) (updB gd (c : Int) true) ∧ Only (fun x => x = b ∨ x = ml ∨ x = md) w w'
set_option maxHeartbeats 8000000 in
theorem snapshot_c (F h mc mh ml md j cnt cnts nc nh nl nd b : Nat) (f : Int → Option Nat) (gh gl gd : Int → Bool) (c cp G O : Nat) (T : Nat → Prop) (w : World) (hi : FI w F h mc mh ml md j cnt cnts f nc nh nl nd gh gl gd) (hb : Blk w b 74 coV) (hbn : b ≠ F ∧ b ≠ h ∧ b ≠ mc ∧ b ≠ mh ∧ b ≠ ml ∧ b ≠ md)
    (hR : Rd w T (some ⟨G, O, none⟩) (frE c)) (hcp : 268 ≤ cp) (hc : c ≤ 65535) (hf : f (c : Int) = some b) (hn : nl ≤ 1000 ∧ nd ≤ 1000) :
    Calls Tryz.prog 78 #[rp F, .int .i64 (c : Int), .slice (some ⟨G, O, none⟩) 268 cp] w (SnR F h mc mh ml md j cnt cnts nc nh nl nd b f gh gl gd c w) := by
  have hz := run_zeroS
  have hlw := hi.lt
  have hlb := hb.lt
  have H := Lib.hid (And.intro hi (And.intro hb (And.intro hbn (And.intro hR (And.intro hf (And.intro hn (And.intro hlw hlb)))))))
  have hkr := hi.key
  obtain ⟨f0, _⟩ := hi.g
  clear hi hb hbn hR hf hn hlw hlb
  go_enter Tryz.func78, Tryz.ntmps78
  go_upto_region 2 with (first
    | (refine wpList_load_mid rfl 29 (.tmp 21) rfl h 1 rfl ((k7.map B8).toArray).toList _ hkr Tryz.underlying29 rfl Tryz.infoB32 ?_)
    | (go_at_call 32; apply Calls.mono; (· (with_reducible exact kf_v _)); rintro e w1 ⟨rfl, b1⟩)
    | (go_at_call 118; apply Calls.mono; (· (with_reducible refine vo_c c T G O cp _ hc ?_ hcp); (· exact H.out.2.2.2.1.below b1)); rintro e w2 ⟨p2, n2, k2, rfl, h2, x2, b2⟩; have hn2 := h2.len; rw [frT_len] at hn2; subst hn2)
    | (refine st_no rfl (.tmp 7) (.tmp 26) rfl w2.heap.size rfl rfl (Blk.new w2 94 (noV 0 0 0)) ?_; intro w3 hA3 hO3))
  have hs1 := b1.size
  have hs2 := b2.size
  have hal : Below w2.heap.size w2 (w2.alloc (.cells (noV 0 0 0) 94)) := (Below.refl _ _).alloc (Nat.le_refl _) _
  have b3 : Below w.heap.size w w3 := below_only ((b1.trans (b2.mono hs1)).trans (hal.mono (Nat.le_trans hs1 hs2))) (by rw [World.size_alloc]; omega) hO3 (fun k hk e => by omega)
  have h23 : OB w3 p2 242 k2 frT := (h2.below hal).only hO3 (fun k hk e => by have := OB.lt h2 k hk; omega)
  have x23 : ∀ k, owB p2 242 k2 k → w.heap.size ≤ k := fun k hk => Nat.le_trans hs1 (x2 k hk)
  have hGn : w.heap.size ≤ w2.heap.size := Nat.le_trans hs1 hs2
  have hi3 := H.out.1.below b3
  have hb3 := H.out.2.1.below b3
  have hlk := run_lookup_cn hi3.c (c : Int) (WalkArith.wf_i64 (by omega))
  rw [H.out.2.2.2.2.1] at hlk
  have hl2 : (Instr.lookup 60 (.map (some mc)) (.int .i64 (c : Int)) false).run Tryz.prog w3 = .ok (rp b) w3 := hlk
  clear hlk
  have f0 := hi3.g.1
  have f68 := hi3.g.2.2.2.1
  have e1 : w3.cell? ⟨w2.heap.size, 1, none⟩ = some (.int .i64 (c : Int)) := hA3.c 1
  have e2 : w3.cell? ⟨w2.heap.size, 2, none⟩ = some (.int .i64 1) := hA3.c 2
  have e235 : w3.cell? ⟨b, 235, none⟩ = some (.int .i64 0) := (hb3.c 235).trans coV_234.2
  have H3 := Lib.hid (And.intro hi3 (And.intro hb3 (And.intro hA3 (And.intro h23 (And.intro x23 (And.intro hGn b3))))))
  clear hi3 hb3 hA3 h23 x23 hGn b3 h2 x2 hO3 hal hs1 hs2 b1 b2 hkr
  generalize w2.heap.size = Gn at *
  go_upto_region 3 with (fail)
  clear hl2 f0 f68
  go_quiet (fail)
  obtain ⟨u, hu⟩ : ∃ u : World, u = w3.drewN nq := ⟨_, rfl⟩
  rw [← hu]
  have bu : Below w3.heap.size w3 u := by rw [hu]; exact ⟨rfl, rfl, rfl, Nat.le_refl _, fun _ _ => rfl⟩
  clear hu e1 e2 e235
  have Hu := Lib.hid bu
  clear bu
  go_upto_region 6 with (go_at_call 74; refine (new_c (fun k => owB p2 242 k2 k) p2 242 k2 frT _ (H3.out.2.2.2.1.below Hu.out).rd (H3.out.2.2.2.1).nilc (by rw [frT_len]; decide) frT_len).mono ?_; rintro e w4 ⟨r, g, rfl, hr, hrl, hg, hcu, b4⟩)
  go_upto_region 7 with (go_at_call 119; apply Calls.mono; (· (with_reducible exact vec_0 r g _ hcu)); rintro e w5 ⟨gl5, pl, cl, rfl, hgl5, hol5, hc5, o5⟩)
  have hsn := hc5
  have hinf := Tryz.infoS
  go_upto_region 8 with (first
    | (go_at_call 76; apply Calls.mono; (· (with_reducible exact bytes_240 r g _ hc5)); rintro e w7 ⟨g7, p7, c7, rfl, hg7, ho7, hc7, o7⟩)
    | (go_at_call 77; apply Calls.mono; (· (with_reducible exact left_240 r g _ hc5)); rintro e w6 ⟨rfl, hw6⟩; rw [hw6]; clear hw6 w6)
    | (go_at_call 120; apply Calls.mono; (· (with_reducible refine sget_c (fun k => k = g7) p7 c7 _ ?_ ?_); (· exact ho7.rd); (· exact (OB.of_own ho7).1.nilc)); rintro e w8 ⟨C, rfl, hC, hC1, b8⟩; have hb8 := Blk.new w8 71 zC)
    | (refine wpList_store_row rfl 71 (.tmp 13) (.tmp 69) rfl w8.heap.size C rfl rfl 71 zC hb8 (by rw [hC]; exact Tryz.infoS) (by rw [hC, zC_size]) hC1 ?_))
  have hus := Hu.out.size
  have hw3 := H3.out.2.2.2.2.2.2.size
  have b35 : Below w3.heap.size w3 w5 := below_only (Hu.out.trans (b4.mono hus)) (Nat.le_trans hus b4.size) o5 (fun k hk e => by omega)
  have b37 : Below w3.heap.size w3 w7 := below_only b35 b35.size o7 (fun k hk e => by omega)
  have b38 : Below w3.heap.size w3 w8 := b37.trans (b8.mono b37.size)
  have b39 : Below w3.heap.size w3 (w8.alloc (.cells zC 71)) := b38.alloc b38.size _
  have hc8 := hc7.only (Only.of_below b8 : Only (fun _ => False) _ _) (fun h => h) (fun h => h)
  have hc9 := hc8.only ((Only.refl (fun _ => False) w8).alloc (.cells zC 71)) (fun h => h) (fun h => h)
  refine wp_world (fun W => Blk W w8.heap.size 71 C ∧ Below w3.heap.size w3 W ∧ Cur W r g [] 0) ?_ ?_
  · have ho : Only (fun x => x = w8.heap.size) (w8.alloc (.cells zC 71)) ((w8.alloc (.cells zC 71)).setRow w8.heap.size C) := only_setRowS (q := fun k => k = w8.heap.size) _ _ _ rfl
    exact ⟨setRow_heap _ w8.heap.size _ C 71 (0, 0) hb8, below_only b39 b39.size ho (fun k hk e => by have := b38.size; omega), hc9.only ho (by have := hc8.lt; omega) (by have := hc8.glt; omega)⟩
  intro W hW
  have hgs : w3.heap.size ≤ w8.heap.size := b38.size
  have HW := Lib.hid (And.intro hW (And.intro hgs (And.intro hC hC1)))
  have hcW := hW.2.2
  clear hW hgs hC hC1 hb8 hc9 hc8 hc7 b39 b38 b37 b35 o7 o5 b4 b8 ho7 hol5 hsn hc5 hus hw3
  generalize w8.heap.size = Gs at *
  go_upto_region 10 with (go_at_call 82; apply Calls.mono; (· (with_reducible exact done_0 r g _ hcW)); rintro e wd ⟨rfl, hwd⟩; rw [hwd]; clear hwd wd)
  refine wp_region_tail (S := fun wx => Only (fun x => x = b) W wx) (n := 13) (by kernel_rfl) (by decide) ?_
  try simp only [List.drop_succ_cons, List.drop_zero]
  obtain ⟨u0, hu0⟩ : ∃ u, u = W.drew := ⟨_, rfl⟩
  have hS : Only (fun x => x = b) W u0 := by rw [hu0]; exact (Only.refl _ _).drew
  have hS0 : Only (fun _ => False) W u0 := by rw [hu0]; exact (Only.refl _ _).drew
  rw [← hu0]
  clear hu0
  try simp only [Act.put]
  have hGsb : Gs ≠ b := by have := HW.out.2.1; have := H3.out.2.1.lt; omega
  have hGnb : Gn ≠ b := by have := H3.out.2.2.2.2.2.1; have := H.out.2.2.2.2.2.2.2; omega
  have hiC : (Tryz.prog.info? 71).map (·.size) = some C.toList.length := by rw [Array.length_toList, HW.out.2.2.1]; exact Tryz.infoS
  refine wpAnyT_take (i := 0) (oi := _) (v := (rp b)) rfl (by kernel_rfl) (fun _ _ _ h => h) (by kernel_rfl) (fun wq hq => rfl) hS ?_
  try simp only [List.getElem_toArray, List.getElem_cons_succ, List.getElem_cons_zero, Act.put, List.setIfInBounds_toArray, List.set_cons_zero, List.set_cons_succ]
  refine wpAnyT_take (i := 1) (oi := _) (v := (rp b)) rfl (by kernel_rfl) (fun _ _ _ h => h) (by kernel_rfl) (fun wq hq => rfl) hS ?_
  try simp only [List.getElem_toArray, List.getElem_cons_succ, List.getElem_cons_zero, Act.put, List.setIfInBounds_toArray, List.set_cons_zero, List.set_cons_succ]
  refine wpAnyT_take (i := 2) (oi := _) (v := (rp b)) rfl (by kernel_rfl) (fun _ _ _ h => h) (by kernel_rfl) (fun wq hq => rfl) hS ?_
  try simp only [List.getElem_toArray, List.getElem_cons_succ, List.getElem_cons_zero, Act.put, List.setIfInBounds_toArray, List.set_cons_zero, List.set_cons_succ]
  refine wpAnyT_take (i := 3) (oi := _) (v := (.agg C)) rfl (by kernel_rfl) (fun _ _ _ h => h) (by kernel_rfl) (fun wq hq => ex_load_mid 71 (.tmp 13) rfl Gs 0 rfl C _ ((HW.out.1.1.only hq hGsb).range) Tryz.underlying71 rfl hiC) hS ?_
  try simp only [List.getElem_toArray, List.getElem_cons_succ, List.getElem_cons_zero, Act.put, List.setIfInBounds_toArray, List.set_cons_zero, List.set_cons_succ]
  refine wpAnyT_take (i := 4) (oi := _) (v := (.slice pl 0 cl)) rfl (by kernel_rfl) (fun _ _ _ h => h) (by kernel_rfl) (fun wq hq => rfl) hS ?_
  try simp only [List.getElem_toArray, List.getElem_cons_succ, List.getElem_cons_zero, Act.put, List.setIfInBounds_toArray, List.set_cons_zero, List.set_cons_succ]
  refine wpAnyT_take (i := 5) (oi := _) (v := (.pointer (some ⟨Gn, 2, none⟩))) rfl (by kernel_rfl) (fun _ _ _ h => h) (by kernel_rfl) (fun wq hq => by go_simp) hS ?_
  try simp only [List.getElem_toArray, List.getElem_cons_succ, List.getElem_cons_zero, Act.put, List.setIfInBounds_toArray, List.set_cons_zero, List.set_cons_succ]
  refine wpAnyT_take (i := 6) (oi := _) (v := (.int .i64 1)) rfl (by kernel_rfl) (fun _ _ _ h => h) (by kernel_rfl) (fun wq hq => by have h : wq.cell? ⟨Gn, 2, none⟩ = some (.int .i64 1) := ((H3.out.2.2.1.below HW.out.1.2.1).only hq hGnb).c 2; go_simp) hS ?_
  try simp only [List.getElem_toArray, List.getElem_cons_succ, List.getElem_cons_zero, Act.put, List.setIfInBounds_toArray, List.set_cons_zero, List.set_cons_succ]
  refine wpAnyT_take (i := 7) (oi := _) (v := (rp b)) rfl (by kernel_rfl) (fun _ _ _ h => h) (by kernel_rfl) (fun wq hq => rfl) hS ?_
  try simp only [List.getElem_toArray, List.getElem_cons_succ, List.getElem_cons_zero, Act.put, List.setIfInBounds_toArray, List.set_cons_zero, List.set_cons_succ]
  refine wpAnyT_take (i := 8) (oi := _) (v := (.pointer (some ⟨b, 0, none⟩))) rfl (by kernel_rfl) (fun _ _ _ h => h) (by kernel_rfl) (fun wq hq => by go_simp) hS ?_
  try simp only [List.getElem_toArray, List.getElem_cons_succ, List.getElem_cons_zero, Act.put, List.setIfInBounds_toArray, List.set_cons_zero, List.set_cons_succ]
  have hbu : Blk u0 b 74 coV := by
    have h1 := H3.out.2.1.below HW.out.1.2.1
    exact h1.only (hS0) (fun h => h)
  refine wpAnyT_ready (rs := [9]) (by kernel_rfl) (by simp) ?_
  refine AllReadyT.cons rfl (by decide) (fun K hC => ?_) AllReadyT.nil
  obtain ⟨Y, hY, hbY⟩ := Blk.setCells C.toList 0 u0 coV hbu
  have hoC := only_setCellsH b C.toList 0 u0
  refine step_store_mid rfl 71 (.tmp 87) (.tmp 82) rfl b 0 C rfl rfl (there_blk hbu C.size (by rw [HW.out.2.2.1, coV_size]; decide)) (by rw [HW.out.2.2.1]; exact Tryz.infoS) HW.out.2.2.2 ?_
  have hS := hS.then hoC
  refine hC.out _ _ hS ?_
  clear hC K hoC hbu hS0
  try simp only [List.getElem_toArray, List.getElem_cons_succ, List.getElem_cons_zero, Act.put, List.setIfInBounds_toArray, List.set_cons_zero, List.set_cons_succ]
  generalize u0.setCells b 0 C.toList = u1 at *
  refine wpAnyT_take (i := 10) (oi := _) (v := (rp b)) rfl (by kernel_rfl) (fun _ _ _ h => h) (by kernel_rfl) (fun wq hq => rfl) hS ?_
  try simp only [List.getElem_toArray, List.getElem_cons_succ, List.getElem_cons_zero, Act.put, List.setIfInBounds_toArray, List.set_cons_zero, List.set_cons_succ]
  refine wpAnyT_take (i := 11) (oi := _) (v := (.pointer (some ⟨b, 234, none⟩))) rfl (by kernel_rfl) (fun _ _ _ h => h) (by kernel_rfl) (fun wq hq => by go_simp) hS ?_
  try simp only [List.getElem_toArray, List.getElem_cons_succ, List.getElem_cons_zero, Act.put, List.setIfInBounds_toArray, List.set_cons_zero, List.set_cons_succ]
  have hYs : Y.size = 237 := by rw [hY, coV_size]
  have y234 : u1.cell? ⟨b, 234, none⟩ = some (Y[234]'(by omega)) := (hbY.c 234).trans (Array.getElem?_eq_getElem (by omega))
  have z234 := hbY.fr 234
  obtain ⟨v234, hv234⟩ : ∃ v, v = Y[234]'(by omega) := ⟨_, rfl⟩
  rw [← hv234] at y234
  clear hv234
  refine wpAnyT_ready (rs := [12]) (by kernel_rfl) (by simp) ?_
  refine AllReadyT.cons rfl (by decide) (fun K hC => ?_) AllReadyT.nil
  go_simp
  go_wp2
  have hS := hS.setCell ⟨b, 234, none⟩ (.slice pl 0 cl) (.inl rfl)
  have hbZ := hbY.set 234 (.slice pl 0 cl)
  refine hC.out _ _ hS ?_
  clear hC K y234 z234 hbY
  try simp only [List.getElem_toArray, List.getElem_cons_succ, List.getElem_cons_zero, Act.put, List.setIfInBounds_toArray, List.set_cons_zero, List.set_cons_succ]
  generalize u1.setCell ⟨b, 234, none⟩ (.slice pl 0 cl) = u2 at *
  refine wpAnyT_tail (by kernel_rfl) ?_
  have y235 : u2.cell? ⟨b, 235, none⟩ = some ((Y.setIfInBounds 234 (.slice pl 0 cl))[235]'(by rw [Array.size_setIfInBounds]; omega)) := (hbZ.c 235).trans (Array.getElem?_eq_getElem (by rw [Array.size_setIfInBounds]; omega))
  have z235 := hbZ.fr 235
  obtain ⟨v235, hv235⟩ : ∃ v, v = (Y.setIfInBounds 234 (.slice pl 0 cl))[235]'(by rw [Array.size_setIfInBounds]; omega) := ⟨_, rfl⟩
  rw [← hv235] at y235
  clear hv235 hbZ hYs hY hiC hinf
  go_upto_region 11 with (fail)
  refine wp_world (fun V => FI V F h mc mh ml md j cnt cnts f nc nh nl nd gh gl gd ∧ Only (fun x => x = b) W V) ?_ ?_
  · have hS := hS.setCell ⟨b, 235, none⟩ (.int .i64 1) (.inl rfl)
    exact ⟨(H3.out.1.below HW.out.1.2.1).only hS (by have := H.out.2.2.1; omega), hS⟩
  intro V hV
  have hml := hV.1.dl
  have hmd := hV.1.dd
  have hmm := hV.1.ne.2.2.2.2.2.2.2.2.2.2.2.2.2.2
  have HV := Lib.hid hV
  clear hV hS y235 z235
  have hn1 := H.out.2.2.2.2.2.1.1
  have hn2 := H.out.2.2.2.2.2.1.2
  refine wp_region_tail (S := fun wx => Only (fun x => x = ml ∨ x = md) V wx) (n := 15) (by kernel_rfl) (by decide) ?_
  try simp only [List.drop_succ_cons, List.drop_zero]
  obtain ⟨u5, hu5⟩ : ∃ u, u = V.drew := ⟨_, rfl⟩
  have hS : Only (fun x => x = ml ∨ x = md) V u5 := by rw [hu5]; exact (Only.refl _ _).drew
  have hml : BmS u5 ml nl gl := by rw [hu5]; exact hml.only ((Only.refl (fun _ => False) _).drew) (fun h => h)
  have hmd : BmS u5 md nd gd := by rw [hu5]; exact hmd.only ((Only.refl (fun _ => False) _).drew) (fun h => h)
  have hk0 : ∀ {wq : World}, Only (fun x => x = ml ∨ x = md) V wq → wq.cell? ⟨F, 1, none⟩ = some (.map (some ml)) ∧ wq.cell? ⟨F, 2, none⟩ = some (.map (some md)) := fun ho => by
    have h2 := HV.out.1.fb.only ho (by have := HV.out.1.ne; omega)
    exact ⟨h2.c 1, h2.c 2⟩
  rw [← hu5]
  clear hu5
  try simp only [Act.put]
  refine wpAnyT_take (i := 0) (oi := _) (v := (rp F)) rfl (by kernel_rfl) (fun _ _ _ h => h) (by kernel_rfl) (fun wq hq => rfl) hS ?_
  try simp only [List.getElem_toArray, List.getElem_cons_succ, List.getElem_cons_zero, Act.put, List.setIfInBounds_toArray, List.set_cons_zero, List.set_cons_succ]
  refine wpAnyT_take (i := 1) (oi := _) (v := (rp F)) rfl (by kernel_rfl) (fun _ _ _ h => h) (by kernel_rfl) (fun wq hq => rfl) hS ?_
  try simp only [List.getElem_toArray, List.getElem_cons_succ, List.getElem_cons_zero, Act.put, List.setIfInBounds_toArray, List.set_cons_zero, List.set_cons_succ]
  refine wpAnyT_take (i := 2) (oi := _) (v := (.pointer (some ⟨F, 2, none⟩))) rfl (by kernel_rfl) (fun _ _ _ h => h) (by kernel_rfl) (fun wq hq => by go_simp) hS ?_
  try simp only [List.getElem_toArray, List.getElem_cons_succ, List.getElem_cons_zero, Act.put, List.setIfInBounds_toArray, List.set_cons_zero, List.set_cons_succ]
  refine wpAnyT_take (i := 3) (oi := _) (v := (.map (some md))) rfl (by kernel_rfl) (fun _ _ _ h => h) (by kernel_rfl) (fun wq hq => by have h := (hk0 hq).2; go_simp) hS ?_
  try simp only [List.getElem_toArray, List.getElem_cons_succ, List.getElem_cons_zero, Act.put, List.setIfInBounds_toArray, List.set_cons_zero, List.set_cons_succ]
  refine wpAnyT_take (i := 4) (oi := _) (v := (.int .i64 (c : Int))) rfl (by kernel_rfl) (fun _ _ _ h => h) (by kernel_rfl) (fun wq hq => rfl) hS ?_
  try simp only [List.getElem_toArray, List.getElem_cons_succ, List.getElem_cons_zero, Act.put, List.setIfInBounds_toArray, List.set_cons_zero, List.set_cons_succ]
  refine wpAnyT_take (i := 5) (oi := _) (v := (rp F)) rfl (by kernel_rfl) (fun _ _ _ h => h) (by kernel_rfl) (fun wq hq => rfl) hS ?_
  try simp only [List.getElem_toArray, List.getElem_cons_succ, List.getElem_cons_zero, Act.put, List.setIfInBounds_toArray, List.set_cons_zero, List.set_cons_succ]
  refine wpAnyT_take (i := 6) (oi := _) (v := (rp F)) rfl (by kernel_rfl) (fun _ _ _ h => h) (by kernel_rfl) (fun wq hq => rfl) hS ?_
  try simp only [List.getElem_toArray, List.getElem_cons_succ, List.getElem_cons_zero, Act.put, List.setIfInBounds_toArray, List.set_cons_zero, List.set_cons_succ]
  refine wpAnyT_take (i := 7) (oi := _) (v := (.pointer (some ⟨F, 1, none⟩))) rfl (by kernel_rfl) (fun _ _ _ h => h) (by kernel_rfl) (fun wq hq => by go_simp) hS ?_
  try simp only [List.getElem_toArray, List.getElem_cons_succ, List.getElem_cons_zero, Act.put, List.setIfInBounds_toArray, List.set_cons_zero, List.set_cons_succ]
  refine wpAnyT_take (i := 8) (oi := _) (v := (.map (some ml))) rfl (by kernel_rfl) (fun _ _ _ h => h) (by kernel_rfl) (fun wq hq => by have h := (hk0 hq).1; go_simp) hS ?_
  try simp only [List.getElem_toArray, List.getElem_cons_succ, List.getElem_cons_zero, Act.put, List.setIfInBounds_toArray, List.set_cons_zero, List.set_cons_succ]
  refine wpAnyT_take (i := 9) (oi := _) (v := (.int .i64 (c : Int))) rfl (by kernel_rfl) (fun _ _ _ h => h) (by kernel_rfl) (fun wq hq => rfl) hS ?_
  try simp only [List.getElem_toArray, List.getElem_cons_succ, List.getElem_cons_zero, Act.put, List.setIfInBounds_toArray, List.set_cons_zero, List.set_cons_succ]
  clear hk0
  refine wpAnyT_ready (rs := [10]) (by kernel_rfl) (by simp) ?_
  refine AllReadyT.cons rfl (by decide) (fun K hC => ?_) AllReadyT.nil
  obtain ⟨v1, s1, M1, hr1, hs1⟩ := hmd.entry (by unfold maxLen; omega) (c : Int) (WalkArith.wf_i64 (by omega))
  have ho := only_setBlock u5 md M1
  have hm1 : HeapIs (setBlock u5 md M1) md M1 := setBlock_same _ _ _ hmd.lt
  refine step_mapEntry rfl (.tmp 95) (.tmp 96) rfl _ _ rfl rfl hr1 ?_
  have hS := hS.then (ho.mono (fun x _ e => .inr e))
  have hml := hml.only ho (by omega)
  have hmd := hm1
  refine hC.out _ _ hS ?_
  clear hC K ho hr1 hm1
  try simp only [List.getElem_toArray, List.getElem_cons_succ, List.getElem_cons_zero, Act.put, List.setIfInBounds_toArray, List.set_cons_zero, List.set_cons_succ]
  generalize setBlock u5 md M1 = u6 at *
  refine wpAnyT_take (i := 11) (oi := _) (v := (goInt s1)) rfl (by kernel_rfl) (fun _ _ _ h => h) (by kernel_rfl) (fun wq hq => rfl) hS ?_
  try simp only [List.getElem_toArray, List.getElem_cons_succ, List.getElem_cons_zero, Act.put, List.setIfInBounds_toArray, List.set_cons_zero, List.set_cons_succ]
  refine wpAnyT_ready (rs := [12]) (by kernel_rfl) (by simp) ?_
  refine AllReadyT.cons rfl (by decide) (fun K hC => ?_) AllReadyT.nil
  obtain ⟨M2, hr2, hs2⟩ := hs1 _ true hmd
  have ho := only_setBlock u6 md M2
  have hm1 := hs2 _ (setBlock_same u6 md M2 hmd.lt)
  refine step_entryStore rfl (.tmp 95) (.tmp 103) (.const (.bool true)) rfl _ _ _ rfl rfl rfl hr2 ?_
  have hS := hS.then (ho.mono (fun x _ e => .inr e))
  have hml := hml.only ho (by omega)
  have hmd := hm1
  refine hC.out _ _ hS ?_
  clear hC K ho hr2 hm1 hs2 hs1
  try simp only [List.getElem_toArray, List.getElem_cons_succ, List.getElem_cons_zero, Act.put, List.setIfInBounds_toArray, List.set_cons_zero, List.set_cons_succ]
  generalize setBlock u6 md M2 = u7 at *
  refine wpAnyT_ready (rs := [13]) (by kernel_rfl) (by simp) ?_
  refine AllReadyT.cons rfl (by decide) (fun K hC => ?_) AllReadyT.nil
  obtain ⟨v3, s3, M3, hr3, hs3⟩ := hml.entry (by unfold maxLen; omega) (c : Int) (WalkArith.wf_i64 (by omega))
  have ho := only_setBlock u7 ml M3
  have hm1 : HeapIs (setBlock u7 ml M3) ml M3 := setBlock_same _ _ _ hml.lt
  refine step_mapEntry rfl (.tmp 100) (.tmp 101) rfl _ _ rfl rfl hr3 ?_
  have hS := hS.then (ho.mono (fun x _ e => .inl e))
  have hmd := hmd.only ho (by omega)
  have hml := hm1
  refine hC.out _ _ hS ?_
  clear hC K ho hr3 hm1
  try simp only [List.getElem_toArray, List.getElem_cons_succ, List.getElem_cons_zero, Act.put, List.setIfInBounds_toArray, List.set_cons_zero, List.set_cons_succ]
  generalize setBlock u7 ml M3 = u8 at *
  refine wpAnyT_take (i := 14) (oi := _) (v := (goInt s3)) rfl (by kernel_rfl) (fun _ _ _ h => h) (by kernel_rfl) (fun wq hq => rfl) hS ?_
  try simp only [List.getElem_toArray, List.getElem_cons_succ, List.getElem_cons_zero, Act.put, List.setIfInBounds_toArray, List.set_cons_zero, List.set_cons_succ]
  refine wpAnyT_tail (by kernel_rfl) ?_
  obtain ⟨M4, hr4, hs4⟩ := hs3 _ false hml
  have ho := only_setBlock u8 ml M4
  have hm4 := hs4 _ (setBlock_same u8 ml M4 hml.lt)
  try simp only [List.getElem_toArray, List.getElem_cons_succ, List.getElem_cons_zero, Act.put, List.setIfInBounds_toArray, List.set_cons_zero, List.set_cons_succ]
  refine wpList_entryStore rfl (.tmp 100) (.tmp 105) (.const (.bool false)) rfl _ _ _ rfl rfl rfl hr4 ?_
  have hS := hS.then (ho.mono (fun x _ e => .inl e))
  have hmd := hmd.only ho (by omega)
  generalize setBlock u8 ml M4 = u9 at *
  clear hr4 hs4 hs3 ho
  go_wp2
  go_ret
  obtain ⟨ch, hb⟩ := HV.out.1.hb
  have hne := HV.out.1.ne
  have b3W : Below w.heap.size w W := H3.out.2.2.2.2.2.2.trans (HW.out.1.2.1.mono H3.out.2.2.2.2.2.2.size)
  exact ⟨rfl, ⟨HV.out.1.fb.only hS (by omega), ⟨ch, hb.only hS (by omega)⟩, HV.out.1.c.only hS (by omega), HV.out.1.dh.only hS (by omega), hm4, hmd, hne⟩, ((Only.of_below b3W).then (HV.out.2.mono (fun x _ e => .inl e))).then (hS.mono (fun x _ e => .inr e))⟩
end Go.Proofs.YtolgaapiedbkfaaGreat
