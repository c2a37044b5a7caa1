/-
  The contracts of message.PutChain, PutNew and PutVerify. Conditions: a chain whose rows are together at most 2 to the 45th bytes.
-/
import Derived.Test.YtkgeecejgpekkaaBodPure
namespace Go.Proofs.Ytkgeecejgpekkaa
open Go.RowKit Go.Kx
set_option linter.unusedVariables false
set_option linter.unusedSimpArgs false

/-- A slice of slices that reads as l. -/
def Ch (w : World) (a : Option Addr) (n : Nat) (l : List (List UInt8)) : Prop := l.length = n ∧ ∀ i (h : i < l.length), ∃ b o q m c, a = some ⟨b, o, none⟩ ∧ w.cell? ⟨b, o + i, none⟩ = some (.slice q m c) ∧ Rd w (fun _ => True) q l[i] ∧ l[i].length = m ∧ (q = none → c = 0)
theorem Ch.below {w w' : World} {a : Option Addr} {n : Nat} {l : List (List UInt8)} (h : Ch w a n l) (hb : Below w.heap.size w w') : Ch w' a n l := by
  refine ⟨h.1, fun i hi => ?_⟩
  obtain ⟨b, o, q, m, c, h1, h2, h3, h4, h5⟩ := h.2 i hi
  exact ⟨b, o, q, m, c, h1, (hb.cell (p := ⟨b, o + i, none⟩) (World.block_lt_of_cell? _ _ h2)).trans h2, h3.below hb, h4, h5⟩

/-- What a Put tells: bytes, or that it can't be. -/
def BYes (w : World) (X : List UInt8) (e : Ending) (w' : World) : Prop := ∃ p n c, e = .returned (.tuple #[.slice p n c, .int .i64 0]) ∧ X.length = n ∧ Rd w' (fun _ => True) p X ∧ (p = none → c = 0) ∧ Below w.heap.size w w'
def BNo (w : World) (e : Ending) (w' : World) : Prop := e = .returned (.tuple #[.slice none 0 0, .int .i64 1]) ∧ Below w.heap.size w w'
/-- .. of a writer that is at its end. -/
def BRes (w : World) (x : WS) (e : Ending) (w' : World) : Prop := (x.2 = false → BYes w x.1 e w') ∧ (x.2 = true → BNo w e w')
theorem BRes.of {w w' : World} {r : Nat} {x : WS} {e : Ending} (h : EndR w' r x e w') (hb : Below w.heap.size w w') : BRes w x e w' := by
  obtain ⟨-, h⟩ := h
  rcases h with ⟨h1, rfl⟩ | ⟨h1, p, n, c, rfl, h2, h3, h4⟩
  · exact ⟨(fun h => by rw [h1] at h; cases h), fun _ => ⟨rfl, hb⟩⟩
  · exact ⟨fun _ => ⟨p, n, c, rfl, h2, h3.mono (fun _ _ _ => trivial), h4, hb⟩, (fun h => by rw [h1] at h; cases h)⟩

/-- At the head of the loop over the chain. -/
def CRel (w : World) (l : List (List UInt8)) (v12 : Value) (wr : World) : Prop := ∃ i : Nat, v12 = .int .i64 (i : Int) ∧ i ≤ l.length ∧ Wr wr w.heap.size (inS (l.take i)) ∧ Below w.heap.size w wr

set_option maxHeartbeats 4000000 in
set_option maxRecDepth 100000 in
theorem putChain_c (a : Option Addr) (n c : Nat) (l : List (List UInt8)) (w : World) (h : Ch w a n l) (ht : tot l ≤ 35184372088832) (hc : n ≤ c ∧ c ≤ maxLen) : Calls Try.prog 11 #[.slice a n c] w (BRes w (putC l)) := by
  obtain rfl := h.1
  have hcm := hc.2
  unfold maxLen at hcm
  have H := Lib.hid h
  clear h
  go_enter Try.func11, Try.ntmps11
  go_upto_block 0 with (fail)
  have hW0 : Wr (w.alloc (.cells #[.slice none 0 0, .bool false] 69)) w.heap.size (inS (l.take 0)) := Wr.new w false
  have hB0 : Below w.heap.size w (w.alloc (.cells #[.slice none 0 0, .bool false] 69)) := (Below.refl _ _).alloc (Nat.le_refl _) _
  have H0 := Lib.hid (And.intro hW0 hB0)
  clear hW0 hB0
  go_cut [12] (fun v12 wx => Wr wx w.heap.size (inS l) ∧ Below w.heap.size w wx)
  case first =>
    go_wp2_with fail
    go_loopw [12] (fun v12 wr => CRel w l v12 wr) (fun v12 _ => l.length - (intOf v12).toNat)
    case atStart => exact ⟨0, rfl, by omega, H0.out.1, H0.out.2⟩
    case round =>
      obtain ⟨i, rfl, hi, hW, hB⟩ := hrel
      have HW := Lib.hid hW
      have HB := Lib.hid hB
      by_cases hlt : i < l.length
      · obtain ⟨b, o, q, m, k, rfl, d0, hR, hm, hq⟩ := (H.out.below hB).2 i hlt
        have hlen := fold_len (l.take i) ([], false)
        have htk := tot_take l i
        have hmem := tot_mem (List.getElem_mem hlt)
        have hlen2 : (inS (l.take i)).1.length ≤ tot l := by have h2 : (inS (l.take i)).1.length ≤ 0 + tot (l.take i) := hlen; omega
        have hlv := wV_len (inS (l.take i)) (l[i]'hlt) 3 1 300
        have hst : inS (l.take (i + 1)) = wC (inS (l.take i)) (l[i]'hlt) := by unfold inS; rw [List.take_succ_eq_append_getElem hlt, List.foldl_append, List.foldl_cons, List.foldl_nil]
        have HS := Lib.hid hst
        have HR := Lib.hid (And.intro hR (And.intro hm hq))
        have hlI : (i : Int) < (l.length : Int) := by omega
        clear hW hB hlen htk hst hR hm hq
        go_wp2_with (first
          | (go_at_call 29; have hq := W1; refine (wvec_c _ _ (fun _ => True) none 0 0 [] 2 0 0 _ W1 rfl (Rd.nil _ _ _) (fun _ => rfl) (by simp; omega)).mono ?_; rintro e w2 ⟨rfl, W2, O2⟩)
          | (go_at_call 29; refine (wvec_c _ _ (fun _ => True) q m k (l[i]'hlt) 3 1 300 _ HW.out HR.out.2.1 HR.out.1 HR.out.2.2 (by omega)).mono ?_; rintro e w1 ⟨rfl, W1, O1⟩))
        have B2 : Below w.heap.size w w2 := below_only (below_only HB.out HB.out.size O1 (by intro k hk e; omega)) (Nat.le_trans HB.out.size O1.size) O2 (by intro k hk e; omega)
        exact ⟨⟨i + 1, by simp, by omega, by rw [HS.out]; exact W2, B2⟩, by simp [intOf]; omega⟩
      · have hil : l.take i = l := List.take_of_length_le (by omega)
        rw [hil] at hW
        have hlI : ¬ (i : Int) < (l.length : Int) := by omega
        go_wp2
        go_meet
        exact ⟨hW, hB⟩
  case rest =>
    obtain ⟨hW, hB⟩ := hcut
    have hlen2 : (inS l).1.length ≤ tot l := by have h2 : (inS l).1.length ≤ 0 + tot l := fold_len l ([], false); omega
    obtain ⟨p, m, k, hbx, hm, hR, hp⟩ := hW.ex
    have c0 := hbx.c0
    have c1 := hbx.c1
    obtain ⟨bb, hbb⟩ : ∃ bb, bb = (inS l).2 := ⟨_, rfl⟩
    obtain ⟨LB, hLB⟩ : ∃ LB, LB = (inS l).1 := ⟨_, rfl⟩
    rw [← hbb] at c1 hbx
    rw [← hLB] at hm hR hlen2
    obtain ⟨Bf, hBf⟩ : ∃ Bf : Bool, Bf = ((inS l).2 || decide ((l.length : Int) < 1) || decide ((4 : Int) < (l.length : Int))) := ⟨_, rfl⟩
    have HP := Lib.hid (show putC l = wV (wU ([], Bf) 0 1) LB 3 0 16777216 by rw [hBf, hLB]; rfl)
    rw [← hbb] at hBf
    have HX := Lib.hid (And.intro hB (And.intro hbx (And.intro hm (And.intro hR hp))))
    have hlt : w.heap.size < wc.heap.size := hbx.lt
    clear hW hB hm hR hp hbx hLB hbb
    have hlenI : (l.length : Int) < 1 ∨ (4 : Int) < (l.length : Int) ∨ (1 ≤ (l.length : Int) ∧ (l.length : Int) ≤ 4) := by omega
    have step : ∀ B : Bool, B = Bf → ∀ (wy : World), wy = wc.alloc (.cells #[.slice none 0 0, .bool B] 69) →
        Wr wy wc.heap.size ([], B) ∧ Box2 wy w.heap.size 69 (.slice p m k) (.bool bb) ∧ Rd wy (· < wc.heap.size) p LB ∧ Below w.heap.size w wy := by
      rintro B - wy rfl
      have hal : Below wc.heap.size wc (wc.alloc (.cells #[.slice none 0 0, .bool B] 69)) := (Below.refl _ _).alloc (Nat.le_refl _) _
      exact ⟨Wr.new wc B, HX.out.2.1.below hal, (HX.out.2.2.2.1.mono (fun q hq _ => hq)).below hal, HX.out.1.alloc HX.out.1.size _⟩
    have ST := Lib.hid step
    clear step
    clear hcm hc
    have hx0 : ∀ B : Bool, (([], B) : WS).1.length + 4 ≤ 140737488355328 := fun B => by simp
    have hx1 : ∀ B : Bool, (wU ([], B) 0 1).1.length + 4 + LB.length ≤ 140737488355328 := fun B => by
      have h2 : (wU ([], B) 0 1).1.length ≤ 0 + 4 := wU_len ([], B) 0 1
      omega
    have HXX := Lib.hid (And.intro hx0 hx1)
    clear hx0 hx1
    rcases hlenI with h1 | h4 | h14
    · have hb1 : decide ((l.length : Int) < 1) = true := decide_eq_true h1
      obtain rfl : Bf = true := by rw [hBf, hb1]; simp
      cases bb
      all_goals
        have HBF := Lib.hid hBf
        clear hBf
        obtain ⟨s1, s2, s3, s4⟩ := ST.out true rfl _ rfl
        have HS := Lib.hid (And.intro s1 (And.intro s2 (And.intro s3 s4)))
        clear s1 s2 s3 s4
        go_wp2_with fail
        refine (wuint_c wc.heap.size ([], true) 0 1 _ HS.out.1 (HXX.out.1 true)).mono ?_
        rintro e w3 ⟨rfl, W3, O3⟩
        have hb3 := HS.out.2.1.only O3 (by show ¬ w.heap.size = wc.heap.size; omega)
        have c3 := hb3.c0
        go_wp2_with fail
        refine (wvec_c _ _ (· < wc.heap.size) p m k LB 3 0 16777216 _ W3 HX.out.2.2.1 (HS.out.2.2.1.only O3 (fun q hq e => by omega)) HX.out.2.2.2.2 (HXX.out.2 true)).mono ?_
        rintro e w4 ⟨rfl, W4, O4⟩
        go_wp2_with fail
        refine (wend_c _ _ _ W4).mono ?_
        rintro e w5 ⟨rfl, hend⟩
        have B4 : Below w.heap.size w w4 := below_only (below_only HS.out.2.2.2 HS.out.2.2.2.size O3 (by intro k hk e; have := HX.out.1.size; omega)) (Nat.le_trans HS.out.2.2.2.size O3.size) O4 (by intro k hk e; have := HX.out.1.size; omega)
        rw [← HP.out] at hend
        have HE := Lib.hid hend
        clear hend
        rcases HE.out with ⟨h1, rfl⟩ | ⟨h1, p', n', c', rfl, h2⟩
        · go_wp2
          go_ret2
          exact BRes.of (r := wc.heap.size) ⟨rfl, .inl ⟨h1, rfl⟩⟩ B4
        · go_wp2
          go_ret2
          exact BRes.of (r := wc.heap.size) ⟨rfl, .inr ⟨h1, p', n', c', rfl, h2⟩⟩ B4
    · have hb1 : decide ((l.length : Int) < 1) = false := decide_eq_false (by omega)
      have hb4 : decide ((4 : Int) < (l.length : Int)) = true := decide_eq_true h4
      obtain rfl : Bf = true := by rw [hBf, hb4]; simp
      cases bb
      all_goals
        have HBF := Lib.hid hBf
        clear hBf
        obtain ⟨s1, s2, s3, s4⟩ := ST.out true rfl _ rfl
        have HS := Lib.hid (And.intro s1 (And.intro s2 (And.intro s3 s4)))
        clear s1 s2 s3 s4
        go_wp2_with fail
        refine (wuint_c wc.heap.size ([], true) 0 1 _ HS.out.1 (HXX.out.1 true)).mono ?_
        rintro e w3 ⟨rfl, W3, O3⟩
        have hb3 := HS.out.2.1.only O3 (by show ¬ w.heap.size = wc.heap.size; omega)
        have c3 := hb3.c0
        go_wp2_with fail
        refine (wvec_c _ _ (· < wc.heap.size) p m k LB 3 0 16777216 _ W3 HX.out.2.2.1 (HS.out.2.2.1.only O3 (fun q hq e => by omega)) HX.out.2.2.2.2 (HXX.out.2 true)).mono ?_
        rintro e w4 ⟨rfl, W4, O4⟩
        go_wp2_with fail
        refine (wend_c _ _ _ W4).mono ?_
        rintro e w5 ⟨rfl, hend⟩
        have B4 : Below w.heap.size w w4 := below_only (below_only HS.out.2.2.2 HS.out.2.2.2.size O3 (by intro k hk e; have := HX.out.1.size; omega)) (Nat.le_trans HS.out.2.2.2.size O3.size) O4 (by intro k hk e; have := HX.out.1.size; omega)
        rw [← HP.out] at hend
        have HE := Lib.hid hend
        clear hend
        rcases HE.out with ⟨h1, rfl⟩ | ⟨h1, p', n', c', rfl, h2⟩
        · go_wp2
          go_ret2
          exact BRes.of (r := wc.heap.size) ⟨rfl, .inl ⟨h1, rfl⟩⟩ B4
        · go_wp2
          go_ret2
          exact BRes.of (r := wc.heap.size) ⟨rfl, .inr ⟨h1, p', n', c', rfl, h2⟩⟩ B4
    · have hb1 : decide ((l.length : Int) < 1) = false := decide_eq_false (by omega)
      have hb4 : decide ((4 : Int) < (l.length : Int)) = false := decide_eq_false (by omega)
      cases bb
      · obtain rfl : Bf = false := by rw [hBf, hb1, hb4]; simp
        have HBF := Lib.hid hBf
        clear hBf
        obtain ⟨s1, s2, s3, s4⟩ := ST.out false rfl _ rfl
        have HS := Lib.hid (And.intro s1 (And.intro s2 (And.intro s3 s4)))
        clear s1 s2 s3 s4
        go_wp2_with fail
        refine (wuint_c wc.heap.size ([], false) 0 1 _ HS.out.1 (HXX.out.1 false)).mono ?_
        rintro e w3 ⟨rfl, W3, O3⟩
        have hb3 := HS.out.2.1.only O3 (by show ¬ w.heap.size = wc.heap.size; omega)
        have c3 := hb3.c0
        go_wp2_with fail
        refine (wvec_c _ _ (· < wc.heap.size) p m k LB 3 0 16777216 _ W3 HX.out.2.2.1 (HS.out.2.2.1.only O3 (fun q hq e => by omega)) HX.out.2.2.2.2 (HXX.out.2 false)).mono ?_
        rintro e w4 ⟨rfl, W4, O4⟩
        go_wp2_with fail
        refine (wend_c _ _ _ W4).mono ?_
        rintro e w5 ⟨rfl, hend⟩
        have B4 : Below w.heap.size w w4 := below_only (below_only HS.out.2.2.2 HS.out.2.2.2.size O3 (by intro k hk e; have := HX.out.1.size; omega)) (Nat.le_trans HS.out.2.2.2.size O3.size) O4 (by intro k hk e; have := HX.out.1.size; omega)
        rw [← HP.out] at hend
        have HE := Lib.hid hend
        clear hend
        rcases HE.out with ⟨h1, rfl⟩ | ⟨h1, p', n', c', rfl, h2⟩
        · go_wp2
          go_ret2
          exact BRes.of (r := wc.heap.size) ⟨rfl, .inl ⟨h1, rfl⟩⟩ B4
        · go_wp2
          go_ret2
          exact BRes.of (r := wc.heap.size) ⟨rfl, .inr ⟨h1, p', n', c', rfl, h2⟩⟩ B4
      · obtain rfl : Bf = true := by rw [hBf]; simp
        have HBF := Lib.hid hBf
        clear hBf
        obtain ⟨s1, s2, s3, s4⟩ := ST.out true rfl _ rfl
        have HS := Lib.hid (And.intro s1 (And.intro s2 (And.intro s3 s4)))
        clear s1 s2 s3 s4
        go_wp2_with fail
        refine (wuint_c wc.heap.size ([], true) 0 1 _ HS.out.1 (HXX.out.1 true)).mono ?_
        rintro e w3 ⟨rfl, W3, O3⟩
        have hb3 := HS.out.2.1.only O3 (by show ¬ w.heap.size = wc.heap.size; omega)
        have c3 := hb3.c0
        go_wp2_with fail
        refine (wvec_c _ _ (· < wc.heap.size) p m k LB 3 0 16777216 _ W3 HX.out.2.2.1 (HS.out.2.2.1.only O3 (fun q hq e => by omega)) HX.out.2.2.2.2 (HXX.out.2 true)).mono ?_
        rintro e w4 ⟨rfl, W4, O4⟩
        go_wp2_with fail
        refine (wend_c _ _ _ W4).mono ?_
        rintro e w5 ⟨rfl, hend⟩
        have B4 : Below w.heap.size w w4 := below_only (below_only HS.out.2.2.2 HS.out.2.2.2.size O3 (by intro k hk e; have := HX.out.1.size; omega)) (Nat.le_trans HS.out.2.2.2.size O3.size) O4 (by intro k hk e; have := HX.out.1.size; omega)
        rw [← HP.out] at hend
        have HE := Lib.hid hend
        clear hend
        rcases HE.out with ⟨h1, rfl⟩ | ⟨h1, p', n', c', rfl, h2⟩
        · go_wp2
          go_ret2
          exact BRes.of (r := wc.heap.size) ⟨rfl, .inl ⟨h1, rfl⟩⟩ B4
        · go_wp2
          go_ret2
          exact BRes.of (r := wc.heap.size) ⟨rfl, .inr ⟨h1, p', n', c', rfl, h2⟩⟩ B4

/-- A struct of four cells in a block of its own. -/
theorem fr4 (w : World) (t : TypeId) (x y z u : Value) : ((w.alloc (.cells #[x, y, z, u] t)).cell? ⟨w.heap.size, 0, none⟩ = some x ∧ (w.alloc (.cells #[x, y, z, u] t)).cell? ⟨w.heap.size, 1, none⟩ = some y ∧ (w.alloc (.cells #[x, y, z, u] t)).cell? ⟨w.heap.size, 2, none⟩ = some z ∧ (w.alloc (.cells #[x, y, z, u] t)).cell? ⟨w.heap.size, 3, none⟩ = some u) := by
  refine ⟨?_, ?_, ?_, ?_⟩ <;> (rw [World.cell?_alloc_at _ _ _ _ rfl]; rfl)

set_option maxHeartbeats 4000000 in
set_option maxRecDepth 100000 in
theorem putNew_c (li ad : Int) (p1 p2 : Option Addr) (n1 c1 n2 c2 : Nat) (no tk : List UInt8) (w : World) (R1 : Rd w (fun _ => True) p1 no) (l1 : no.length = n1) (z1 : p1 = none → c1 = 0) (R2 : Rd w (fun _ => True) p2 tk) (l2 : tk.length = n2) (z2 : p2 = none → c2 = 0) (hb : n1 + n2 ≤ 140737488355000) :
    Calls Try.prog 13 #[.agg #[.int .i64 li, .int .i64 ad, .slice p1 n1 c1, .slice p2 n2 c2]] w (BRes w (putN li ad no tk)) := by
  subst l1 l2
  obtain ⟨WA, hWA⟩ : ∃ WA, WA = w.alloc (.cells #[.int .i64 li, .int .i64 ad, .slice p1 no.length c1, .slice p2 tk.length c2] 46) := ⟨_, rfl⟩
  have hA : Below w.heap.size w WA := by rw [hWA]; exact (Below.refl _ _).alloc (Nat.le_refl _) _
  obtain ⟨d0, d1, d2, d3⟩ := fr4 w 46 (.int .i64 li) (.int .i64 ad) (.slice p1 no.length c1) (.slice p2 tk.length c2)
  have hr : ∀ wx, Below (WA.alloc (.cells #[.slice none 0 0, .bool false] 69)).heap.size (WA.alloc (.cells #[.slice none 0 0, .bool false] 69)) wx → True := fun _ _ => trivial
  clear hr
  have hW : Wr (WA.alloc (.cells #[.slice none 0 0, .bool false] 69)) WA.heap.size ([], false) := Wr.new WA false
  have hB : Below w.heap.size w (WA.alloc (.cells #[.slice none 0 0, .bool false] 69)) := hA.alloc hA.size _
  have hlt : w.heap.size < WA.heap.size := by rw [hWA]; simp
  rw [← hWA] at d0 d1 d2 d3
  have D := Lib.hid (fun (wx : World) (ho : Only (· = WA.heap.size) (WA.alloc (.cells #[.slice none 0 0, .bool false] 69)) wx) => show wx.cell? ⟨w.heap.size, 0, none⟩ = some (.int .i64 li) ∧ wx.cell? ⟨w.heap.size, 1, none⟩ = some (.int .i64 ad) ∧ wx.cell? ⟨w.heap.size, 2, none⟩ = some (.slice p1 no.length c1) ∧ wx.cell? ⟨w.heap.size, 3, none⟩ = some (.slice p2 tk.length c2) ∧ Below w.heap.size w wx from by
    have hk : ∀ o, wx.cell? ⟨w.heap.size, o, none⟩ = WA.cell? ⟨w.heap.size, o, none⟩ := fun o => by
      rw [World.cell?_of_block (w := WA.alloc (.cells #[.slice none 0 0, .bool false] 69)) (ho.block w.heap.size (by simp; omega) (by show ¬ w.heap.size = WA.heap.size; omega))]
      exact World.cell?_alloc_lt _ _ _ hlt
    exact ⟨(hk 0).trans d0, (hk 1).trans d1, (hk 2).trans d2, (hk 3).trans d3, below_only hB hB.size ho (by intro k hk e; omega)⟩)
  have HW := Lib.hid (And.intro hW (And.intro R1 (And.intro z1 (And.intro R2 z2))))
  have s1 := wU_len ([], false) li 4
  have s2 := wU_len (wU ([], false) li 4) ad 4
  have s3 := wV_len (wU (wU ([], false) li 4) ad 4) no 1 0 8
  have s4 := wV_len (wV (wU (wU ([], false) li 4) ad 4) no 1 0 8) tk 2 1 255
  have s0 : (([], false) : WS).1.length = 0 := rfl
  have q1 : (([], false) : WS).1.length + 4 ≤ 140737488355328 := by omega
  have q2 : (wU ([], false) li 4).1.length + 4 ≤ 140737488355328 := by omega
  have q3 : (wU (wU ([], false) li 4) ad 4).1.length + 4 + no.length ≤ 140737488355328 := by omega
  have q4 : (wV (wU (wU ([], false) li 4) ad 4) no 1 0 8).1.length + 4 + tk.length ≤ 140737488355328 := by omega
  have q5 : (wV (wV (wU (wU ([], false) li 4) ad 4) no 1 0 8) tk 2 1 255).1.length + 4 + ([] : List UInt8).length ≤ 140737488355328 := by simp only [List.length_nil]; omega
  have HQ := Lib.hid (And.intro q1 (And.intro q2 (And.intro q3 (And.intro q4 q5))))
  clear q1 q2 q3 q4 q5 s0 s1 s2 s3 s4 hb hW hB hA d0 d1 d2 d3 R1 R2 z1 z2
  have e0 : w.alloc (.cells #[.int .i64 li, .int .i64 ad, .slice p1 no.length c1, .slice p2 tk.length c2] 46) = WA := hWA.symm
  have HE := Lib.hid e0
  clear e0 hWA
  go_enter Try.func13, Try.ntmps13
  go_upto_region 1 with (fail)
  rw [HE.out]
  obtain ⟨d0, d1, d2, d3, -⟩ := D.out _ (Only.refl _ _)
  go_wp2_with fail
  refine (wuint_c WA.heap.size ([], false) li 4 _ HW.out.1 HQ.out.1).mono ?_
  rintro e w1 ⟨rfl, W1, O1⟩
  obtain ⟨d0, d1, d2, d3, -⟩ := D.out _ O1
  go_wp2_with fail
  refine (wuint_c WA.heap.size _ ad 4 _ W1 HQ.out.2.1).mono ?_
  rintro e w2 ⟨rfl, W2, O2'⟩
  have O2 := O1.then O2'
  obtain ⟨d0, d1, d2, d3, B2⟩ := D.out _ O2
  go_wp2_with fail
  refine (wvec_c WA.heap.size _ (fun _ => True) p1 no.length c1 no 1 0 8 _ W2 rfl (HW.out.2.1.below B2) HW.out.2.2.1 HQ.out.2.2.1).mono ?_
  rintro e w3 ⟨rfl, W3, O3'⟩
  have O3 := O2.then O3'
  obtain ⟨d0, d1, d2, d3, B3⟩ := D.out _ O3
  go_wp2_with fail
  refine (wvec_c WA.heap.size _ (fun _ => True) p2 tk.length c2 tk 2 1 255 _ W3 rfl (HW.out.2.2.2.1.below B3) HW.out.2.2.2.2 HQ.out.2.2.2.1).mono ?_
  rintro e w4 ⟨rfl, W4, O4'⟩
  have O4 := O3.then O4'
  go_wp2_with fail
  refine (wvec_c WA.heap.size _ (fun _ => True) none 0 0 [] 2 0 0 _ W4 rfl (Rd.nil _ _ _) (fun _ => rfl) HQ.out.2.2.2.2).mono ?_
  rintro e w5 ⟨rfl, W5, O5'⟩
  have O5 := O4.then O5'
  obtain ⟨-, -, -, -, B5⟩ := D.out _ O5
  go_wp2_with fail
  refine (wend_c _ _ _ W5).mono ?_
  rintro e w6 ⟨rfl, hend⟩
  have HEE := Lib.hid hend
  clear hend
  rcases HEE.out with ⟨h1, rfl⟩ | ⟨h1, p', n', c', rfl, h2⟩
  · go_wp2
    go_ret2
    exact BRes.of (r := WA.heap.size) ⟨rfl, .inl ⟨h1, rfl⟩⟩ B5
  · go_wp2
    go_ret2
    exact BRes.of (r := WA.heap.size) ⟨rfl, .inr ⟨h1, p', n', c', rfl, h2⟩⟩ B5

set_option maxHeartbeats 4000000 in
set_option maxRecDepth 100000 in
theorem putVerify_c (sc : Int) (p2 : Option Addr) (n2 c2 : Nat) (sg : List UInt8) (w : World) (R2 : Rd w (fun _ => True) p2 sg) (l2 : sg.length = n2) (z2 : p2 = none → c2 = 0) (hb : n2 ≤ 140737488355000) :
    Calls Try.prog 15 #[.int .i64 sc, .slice p2 n2 c2] w (BRes w (putY sc sg)) := by
  subst l2
  have hW : Wr (w.alloc (.cells #[.slice none 0 0, .bool false] 69)) w.heap.size ([], false) := Wr.new w false
  have hB : Below w.heap.size w (w.alloc (.cells #[.slice none 0 0, .bool false] 69)) := (Below.refl _ _).alloc (Nat.le_refl _) _
  have s1 := wU_len ([], false) sc 2
  have s0 : (([], false) : WS).1.length = 0 := rfl
  have q1 : (([], false) : WS).1.length + 4 ≤ 140737488355328 := by omega
  have q2 : (wU ([], false) sc 2).1.length + 4 + sg.length ≤ 140737488355328 := by omega
  have HW := Lib.hid (And.intro hW (And.intro hB (And.intro R2 (And.intro z2 (And.intro q1 q2)))))
  clear hW hB s0 s1 q1 q2 R2 z2 hb
  go_enter Try.func15, Try.ntmps15
  go_wp2_with fail
  refine (wuint_c w.heap.size ([], false) sc 2 _ HW.out.1 HW.out.2.2.2.2.1).mono ?_
  rintro e w1 ⟨rfl, W1, O1⟩
  have B1 : Below w.heap.size w w1 := below_only HW.out.2.1 HW.out.2.1.size O1 (by intro k hk e; omega)
  go_wp2_with fail
  refine (wvec_c w.heap.size _ (fun _ => True) p2 sg.length c2 sg 2 1 100 _ W1 rfl (HW.out.2.2.1.below B1) HW.out.2.2.2.1 HW.out.2.2.2.2.2).mono ?_
  rintro e w2 ⟨rfl, W2, O2⟩
  have B2 : Below w.heap.size w w2 := below_only B1 B1.size O2 (by intro k hk e; omega)
  go_wp2_with fail
  refine (wend_c _ _ _ W2).mono ?_
  rintro e w6 ⟨rfl, hend⟩
  have HEE := Lib.hid hend
  clear hend
  rcases HEE.out with ⟨h1, rfl⟩ | ⟨h1, p', n', c', rfl, h2⟩
  · go_wp2
    go_ret2
    exact BRes.of (r := w.heap.size) ⟨rfl, .inl ⟨h1, rfl⟩⟩ B2
  · go_wp2
    go_ret2
    exact BRes.of (r := w.heap.size) ⟨rfl, .inr ⟨h1, p', n', c', rfl, h2⟩⟩ B2
end Go.Proofs.Ytkgeecejgpekkaa
