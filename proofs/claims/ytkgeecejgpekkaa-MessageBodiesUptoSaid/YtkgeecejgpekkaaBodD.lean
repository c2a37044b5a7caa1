/-
  The contracts of message.GetVerify and GetNew, of bytes that were put. Conditions: those of each.
-/
import Derived.Test.YtkgeecejgpekkaaBodC
import Derived.Test.YtkgeecejgpekkaaBack
namespace Go.Proofs.Ytkgeecejgpekkaa
open Go.RowKit Go.Kx
set_option linter.unusedVariables false
set_option linter.unusedSimpArgs false

theorem uintV_c (r g n W : Nat) (t : List UInt8) (w : World) (hr : Cur w r g (be n W ++ t) 0) (hW : 1 ≤ W ∧ W ≤ 4) (hn : n < 256 ^ W) :
    Calls Try.prog 25 #[rp r, .int .i64 (W : Int)] w (fun e w' => e = .returned (.int .i64 (n : Int)) ∧ Cur w' r g t 0 ∧ Only (· = r) w w') := by
  refine (uint_c r g _ 0 W w hr).mono ?_
  rintro e w' ⟨h1, h2, h3⟩
  obtain ⟨a1, a2, a3⟩ := S_app (be n W) t (W : Int) (by rw [be_length])
  rw [wb_ok hW, a2, beN_be hn] at h1
  rw [wb_ok hW, a1, a3] at h2
  exact ⟨h1, h2, h3⟩
theorem vecV_c (r g : Nat) (v t : List UInt8) (W : Nat) (least most : Int) (w : World) (hr : Cur w r g (be v.length W ++ (v ++ t)) 0) (hl : v.length + t.length ≤ 1000000) (hW : 1 ≤ W ∧ W ≤ 4) (hn : v.length < 256 ^ W) (h1 : least ≤ (v.length : Int)) (h2 : (v.length : Int) ≤ most) :
    Calls Try.prog 34 #[rp r, .int .i64 (W : Int), .int .i64 least, .int .i64 most] w (ToldR w r g v t 0) := by
  have h := vector_c r g _ 0 (W : Int) least most w hr (by rw [List.length_append, List.length_append, be_length]; omega)
  rw [vec_read hW hn h1 h2] at h
  exact h

theorem own_nil {w : World} {g : Nat} {p : Option Addr} {n c : Nat} {l : List UInt8} (h : Own w g (.slice p n c) l) : p = none → c = 0 := by
  obtain ⟨p', c', he, _, _, _, hN, _⟩ := h.form
  cases he
  exact hN

/-- A scheme and a signature are told. -/
def GotY (w : World) (sc : Int) (sg : List UInt8) (e : Ending) (w' : World) : Prop := ∃ q m k, e = .returned (.tuple #[.int .i64 sc, .slice q m k, .int .i64 0]) ∧ sg.length = m ∧ Rd w' (fun _ => True) q sg ∧ (q = none → k = 0) ∧ Below w.heap.size w w'

set_option maxHeartbeats 4000000 in
set_option maxRecDepth 100000 in
theorem getVerify_c (S : Nat → Prop) (p : Option Addr) (n c : Nat) (sc : Int) (sg : List UInt8) (w : World) (hok : okY sc sg) (hR : Rd w S p (vfX sc sg)) (hp : p = none → c = 0) (hl : (vfX sc sg).length = n) :
    Calls Try.prog 19 #[.slice p n c] w (GotY w sc sg) := by
  obtain ⟨⟨a1, a2⟩, b1, b2⟩ := hok
  obtain ⟨SC, rfl⟩ : ∃ SC : Nat, sc = (SC : Int) := ⟨sc.toNat, by omega⟩
  have hX : vfX (SC : Int) sg = be SC 2 ++ (be sg.length 2 ++ (sg ++ [])) := by unfold vfX; simp
  have hn : n ≤ 1000 := by rw [← hl, hX]; simp only [List.length_append, be_length, List.length_nil]; omega
  have hSC : SC < 65536 := by omega
  rw [hX] at hR hl
  have HR := Lib.hid (And.intro hR (And.intro hp hl))
  clear hR hp hl hX a1 a2
  go_enter Try.func19, Try.ntmps19
  go_wp2_with fail
  refine (new_c S p n c _ w HR.out.1 HR.out.2.1 (by rw [HR.out.2.2]; omega) HR.out.2.2).mono ?_
  rintro e w1 ⟨r, g, rfl, k1, k2, k3, k4, k5⟩
  have H1 := Lib.hid (And.intro k4 k5)
  clear k4 k5
  go_wp2_with fail
  refine (uintV_c r g SC 2 _ w1 H1.out.1 (by omega) (by simp only [Nat.reducePow]; omega)).mono ?_
  rintro e w2 ⟨rfl, i1, o1⟩
  have H2 := Lib.hid (And.intro i1 o1)
  clear i1 o1
  go_wp2_with fail
  refine (vecV_c r g sg [] 2 1 100 w2 H2.out.1 (by simp; omega) (by omega) (by simp only [Nat.reducePow]; omega) (by omega) (by omega)).mono ?_
  rintro e w3 ⟨g', q, k, rfl, j1, j2, j3, j4⟩
  have H3 := Lib.hid (And.intro j2 (And.intro j3 j4))
  clear j2 j3 j4
  go_wp2_with fail
  refine (done_c r g [] 0 w3 H3.out.2.1).mono ?_
  rintro e w4 ⟨rfl, rfl⟩
  have hd : doneS [] 0 = 0 := rfl
  rw [hd]
  clear hd
  go_wp2
  refine bodyPost_ret (v := .tuple #[.int .i64 (SC : Int), .slice q sg.length k, .int .i64 0]) (by simp [results, Try.results19, go_sem]) rfl ?_
  have B2 : Below w.heap.size w w2 := below_only H1.out.2 H1.out.2.size H2.out.2 (by intro k hk e; omega)
  have B3 : Below w.heap.size w w3 := below_only B2 B2.size H3.out.2.2 (by intro k hk e; omega)
  have hrd := H3.out.1.rd
  have hq := own_nil H3.out.1
  exact ⟨q, sg.length, k, rfl, rfl, hrd.mono (fun _ _ _ => trivial), hq, B3⟩

/-- Block r is a struct of four cells. -/
def Box4 (w : World) (r t : Nat) (x y z u : Value) : Prop := w.heap[r]? = some (.cells #[x, y, z, u] t (0, 0))
theorem Box4.c {w : World} {r t : Nat} {x y z u : Value} (h : Box4 w r t x y z u) : w.cell? ⟨r, 0, none⟩ = some x ∧ w.cell? ⟨r, 1, none⟩ = some y ∧ w.cell? ⟨r, 2, none⟩ = some z ∧ w.cell? ⟨r, 3, none⟩ = some u := by unfold Box4 at h; simp [World.cell?, h]
theorem Box4.fr {w : World} {r t : Nat} {x y z u : Value} (h : Box4 w r t x y z u) (o : Nat) : w.frozen? ⟨r, o, none⟩ = false := by unfold Box4 at h; simp [World.frozen?, h]
theorem Box4.lt {w : World} {r t : Nat} {x y z u : Value} (h : Box4 w r t x y z u) : r < w.heap.size := (Array.getElem?_eq_some_iff.1 h).1
theorem Box4.only {w w' : World} {q : Nat → Prop} {r t : Nat} {x y z u : Value} (h : Box4 w r t x y z u) (ho : Only q w w') (hd : ¬ q r) : Box4 w' r t x y z u := (ho.block r h.lt hd).trans h
theorem Box4.below {w w' : World} {r t : Nat} {x y z u : Value} (h : Box4 w r t x y z u) (ho : Below w.heap.size w w') : Box4 w' r t x y z u := (ho.block r h.lt).trans h
theorem Box4.new (w : World) (t : Nat) (x y z u : Value) : Box4 (w.alloc (.cells #[x, y, z, u] t)) w.heap.size t x y z u := heap_alloc_new w _
theorem Box4.sets {w : World} {r t : Nat} {x y z u : Value} (h : Box4 w r t x y z u) (x' y' z' u' : Value) : Box4 ((((w.setCell ⟨r, 0, none⟩ x').setCell ⟨r, 1, none⟩ y').setCell ⟨r, 2, none⟩ z').setCell ⟨r, 3, none⟩ u') r t x' y' z' u' := by
  unfold Box4 at *; simp [World.setCell, Array.getElem?_modify, h]
theorem set4_only (w : World) (r : Nat) (a b c d : Value) : Only (· = r) w ((((w.setCell ⟨r, 0, none⟩ a).setCell ⟨r, 1, none⟩ b).setCell ⟨r, 2, none⟩ c).setCell ⟨r, 3, none⟩ d) := ((((Only.refl (fun k => k = r) w).setCell ⟨r, 0, none⟩ a (.inl rfl)).setCell ⟨r, 1, none⟩ b (.inl rfl)).setCell ⟨r, 2, none⟩ c (.inl rfl)).setCell ⟨r, 3, none⟩ d (.inl rfl)

/-- A ticket is told. -/
def GotN (w : World) (li ad : Int) (no tk : List UInt8) (e : Ending) (w' : World) : Prop := ∃ q m k q2 m2 k2, e = .returned (.tuple #[.agg #[.int .i64 li, .int .i64 ad, .slice q m k, .slice q2 m2 k2], .int .i64 0]) ∧ no.length = m ∧ tk.length = m2 ∧ Rd w' (fun _ => True) q no ∧ Rd w' (fun _ => True) q2 tk ∧ (q = none → k = 0) ∧ (q2 = none → k2 = 0) ∧ Below w.heap.size w w'

set_option maxHeartbeats 4000000 in
set_option maxRecDepth 100000 in
theorem getNew_c (S : Nat → Prop) (p : Option Addr) (n c : Nat) (li ad : Int) (no tk : List UInt8) (w : World) (hok : okN li ad no tk) (hR : Rd w S p (nwX li ad no tk)) (hp : p = none → c = 0) (hl : (nwX li ad no tk).length = n) :
    Calls Try.prog 18 #[.slice p n c] w (GotN w li ad no tk) := by
  obtain ⟨⟨a1, a2⟩, ⟨a3, a4⟩, b0, b1, b2⟩ := hok
  obtain ⟨LI, rfl⟩ : ∃ LI : Nat, li = (LI : Int) := ⟨li.toNat, by omega⟩
  obtain ⟨AD, rfl⟩ : ∃ AD : Nat, ad = (AD : Int) := ⟨ad.toNat, by omega⟩
  have hX : nwX (LI : Int) (AD : Int) no tk = be LI 4 ++ (be AD 4 ++ (be no.length 1 ++ (no ++ (be tk.length 2 ++ (tk ++ (be ([] : List UInt8).length 2 ++ ([] ++ []))))))) := by unfold nwX; simp
  have hn : n ≤ 1000 := by rw [← hl, hX]; simp only [List.length_append, be_length, List.length_nil]; omega
  have hLI : LI < 4294967296 := by omega
  have hAD : AD < 4294967296 := by omega
  rw [hX] at hR hl
  have hB0 : Below w.heap.size w (w.alloc (.cells #[.int .i64 0, .int .i64 0, .slice none 0 0, .slice none 0 0] 46)) := (Below.refl _ _).alloc (Nat.le_refl _) _
  have hlt : w.heap.size < (w.alloc (.cells #[.int .i64 0, .int .i64 0, .slice none 0 0, .slice none 0 0] 46)).heap.size := by simp
  have HR := Lib.hid (And.intro (hR.below hB0) (And.intro hp (And.intro hl hB0)))
  clear hR hp hl hX a1 a2 a3 a4 hB0
  go_enter Try.func18, Try.ntmps18
  go_upto_region 1 with (fail)
  obtain ⟨W0, hW0⟩ : ∃ W0, W0 = w.alloc (.cells #[.int .i64 0, .int .i64 0, .slice none 0 0, .slice none 0 0] 46) := ⟨_, rfl⟩
  have hbx : Box4 W0 w.heap.size 46 (.int .i64 0) (.int .i64 0) (.slice none 0 0) (.slice none 0 0) := by rw [hW0]; exact Box4.new _ _ _ _ _ _
  rw [← hW0] at HR hlt
  rw [← hW0]
  have HX := Lib.hid hbx
  clear hbx hW0
  go_wp2_with fail
  refine (new_c S p n c _ W0 HR.out.1 HR.out.2.1 (by rw [HR.out.2.2.1]; omega) HR.out.2.2.1).mono ?_
  rintro e w1 ⟨r, g, rfl, k1, k2, k3, k4, k5⟩
  have H1 := Lib.hid (And.intro k4 (And.intro k5 (HX.out.below k5)))
  clear k4 k5
  go_wp2_with fail
  refine (uintV_c r g LI 4 _ w1 H1.out.1 (by omega) (by simp only [Nat.reducePow]; omega)).mono ?_
  rintro e w2 ⟨rfl, i1, o1⟩
  have H2 := Lib.hid (And.intro i1 o1)
  clear i1 o1
  go_wp2_with fail
  refine (uintV_c r g AD 4 _ w2 H2.out.1 (by omega) (by simp only [Nat.reducePow]; omega)).mono ?_
  rintro e w3 ⟨rfl, i1, o1⟩
  have H3 := Lib.hid (And.intro i1 (H2.out.2.then o1))
  clear i1 o1
  go_wp2_with fail
  refine (vecV_c r g no _ 1 0 8 w3 H3.out.1 (by simp only [List.length_append, be_length, List.length_nil]; omega) (by omega) (by simp only [Nat.reducePow]; omega) (by omega) (by omega)).mono ?_
  rintro e w4 ⟨g1, q1, m1, rfl, j1, j2, j3, j4⟩
  have H4 := Lib.hid (And.intro j3 (And.intro (H3.out.2.then j4) j2))
  have hz3 := H3.out.2.size
  have hg1 : w1.heap.size ≤ g1 := by omega
  clear j1 j2 j3 j4 hz3
  go_wp2_with fail
  refine (vecV_c r g tk _ 2 1 255 w4 H4.out.1 (by simp only [List.length_append, be_length, List.length_nil]; omega) (by omega) (by simp only [Nat.reducePow]; omega) (by omega) (by omega)).mono ?_
  rintro e w5 ⟨g2, q2, m2, rfl, j1, j2, j3, j4⟩
  have hz4 := H4.out.2.1.size
  have hg2 : w1.heap.size ≤ g2 := by omega
  have h5 : Own w5 g1 (.slice q1 no.length m1) no := H4.out.2.2.only j4 (by show ¬ g1 = r; omega)
  have H5 := Lib.hid (And.intro j3 (And.intro (H4.out.2.1.then j4) (And.intro h5 j2)))
  clear j1 j2 j3 j4 hz4 h5
  go_wp2_with fail
  have hal : Only (fun _ => False) w5 (w5.alloc (.cells #[.int .i64 (LI : Int), .int .i64 (AD : Int), .slice q1 no.length m1, .slice q2 tk.length m2] 46)) := (Only.refl _ _).alloc _
  have hza : (w5.alloc (.cells #[.int .i64 (LI : Int), .int .i64 (AD : Int), .slice q1 no.length m1, .slice q2 tk.length m2] 46)).heap.size = w5.heap.size + 1 := by simp
  have hz5 := H5.out.2.1.size
  have hrw5 : r < w5.heap.size := by omega
  refine (vecV_c r g [] [] 2 0 0 _ (H5.out.1.only hal (fun h => h) (fun h => h)) (by simp) (by omega) (by simp) (by simp) (by simp)).mono ?_
  rintro e w6 ⟨g3, q3, m3, rfl, j1, j2, j3, j4⟩
  have b6 : Box4 w6 w5.heap.size 46 (.int .i64 (LI : Int)) (.int .i64 (AD : Int)) (.slice q1 no.length m1) (.slice q2 tk.length m2) := (Box4.new w5 _ _ _ _ _).only j4 (by show ¬ w5.heap.size = r; omega)
  have O16 : Only (· = r) w1 w6 := (H5.out.2.1.alloc _).then j4
  have bx6 : Box4 w6 w.heap.size 46 (.int .i64 0) (.int .i64 0) (.slice none 0 0) (.slice none 0 0) := H1.out.2.2.only O16 (by show ¬ w.heap.size = r; omega)
  have h1 : Own w6 g1 (.slice q1 no.length m1) no := (H5.out.2.2.1.only hal (fun h => h)).only j4 (by show ¬ g1 = r; omega)
  have h2 : Own w6 g2 (.slice q2 tk.length m2) tk := (H5.out.2.2.2.only hal (fun h => h)).only j4 (by show ¬ g2 = r; omega)
  have H6 := Lib.hid (And.intro j3 (And.intro O16 (And.intro h1 (And.intro h2 (And.intro bx6 b6)))))
  clear j1 j2 j3 j4 O16 bx6 h1 h2 b6 hal hza
  go_wp2_with fail
  refine (done_c r g [] 0 w6 H6.out.1).mono ?_
  rintro e w7 ⟨rfl, rfl⟩
  have hd : doneS [] 0 = 0 := rfl
  rw [hd]
  clear hd
  obtain ⟨c0, c1, c2, c3⟩ := H6.out.2.2.2.2.2.c
  obtain ⟨t0, t1, t2, t3⟩ := H6.out.2.2.2.2.1.c
  have f0 := H6.out.2.2.2.2.1.fr 0
  have f1 := H6.out.2.2.2.2.1.fr 1
  have f2 := H6.out.2.2.2.2.1.fr 2
  have f3 := H6.out.2.2.2.2.1.fr 3
  go_wp2
  have bx7 := H6.out.2.2.2.2.1.sets (.int .i64 (LI : Int)) (.int .i64 (AD : Int)) (.slice q1 no.length m1) (.slice q2 tk.length m2)
  obtain ⟨d0, d1, d2, d3⟩ := bx7.c
  refine bodyPost_ret (v := .tuple #[.agg #[.int .i64 (LI : Int), .int .i64 (AD : Int), .slice q1 no.length m1, .slice q2 tk.length m2], .int .i64 0]) (by simp [results, Try.results18, go_sem, d0, d1, d2, d3]) rfl ?_
  have hs := set4_only w6 w.heap.size (.int .i64 (LI : Int)) (.int .i64 (AD : Int)) (.slice q1 no.length m1) (.slice q2 tk.length m2)
  have B1 : Below w.heap.size w w1 := HR.out.2.2.2.trans (H1.out.2.1.mono HR.out.2.2.2.size)
  have B6 : Below w.heap.size w w6 := below_only B1 B1.size H6.out.2.1 (by intro k hk e; omega)
  have B7 := below_only B6 B6.size hs (by intro k hk e; omega)
  have hz1 := H1.out.2.1.size
  have e1 := H6.out.2.2.1.only hs (by show ¬ g1 = w.heap.size; omega)
  have e2 := H6.out.2.2.2.1.only hs (by show ¬ g2 = w.heap.size; omega)
  exact ⟨q1, no.length, m1, q2, tk.length, m2, rfl, rfl, rfl, e1.rd.mono (fun _ _ _ => trivial), e2.rd.mono (fun _ _ _ => trivial), own_nil e1, own_nil e2, B7⟩
end Go.Proofs.Ytkgeecejgpekkaa
