/-
  The contract of message.GetChain, of bytes that were put. Conditions: a chain that may be put.
-/
import Derived.Test.YtkgeecejgpekkaaBodD
namespace Go.Proofs.Ytkgeecejgpekkaa
open Go.RowKit Go.Kx
set_option linter.unusedVariables false
set_option linter.unusedSimpArgs false

/-- A chain is told. -/
def GotC (w : World) (l : List (List UInt8)) (e : Ending) (w' : World) : Prop := ∃ a n c, e = .returned (.tuple #[.slice a n c, .int .i64 0]) ∧ Ch w' a n l ∧ Below w.heap.size w w'

def sLen : Value → Nat
  | .slice _ n _ => n
  | _ => 0

/-- The rows that were taken so far: each in a block of its own, none of which is go. -/
def Els (wr : World) (l : List (List UInt8)) (i : Nat) (xs : List Value) (lo go : Nat) : Prop := ∀ (j : Nat) (h : j < l.length), j < i → ∃ gq q m k, xs[j]? = some (.slice q m k) ∧ Rd wr (· = gq) q (l[j]'h) ∧ (l[j]'h).length = m ∧ (q = none → k = 0) ∧ lo ≤ gq ∧ gq < wr.heap.size ∧ gq ≠ go

/-- At the head of the loop. -/
def GRel (w wS : World) (l : List (List UInt8)) (r g r2 g2 : Nat) (v5 : Value) (wr : World) : Prop :=
  ∃ i go xs, i ≤ l.length ∧ Row wr 23 1 go v5 i xs ∧ (i = 0 → v5 = .slice none 0 0) ∧ (0 < i → go < wr.heap.size) ∧ wS.heap.size ≤ go ∧ Cur wr r2 g2 (chI (l.drop i)) 0 ∧ Cur wr r g [] 0 ∧ Els wr l i xs wS.heap.size go ∧ Below w.heap.size w wr ∧ wS.heap.size ≤ wr.heap.size

theorem Row.slen {w : World} {e : TypeId} {sz g : Nat} {v : Value} {n : Nat} {xs : List Value} (h : Row w e sz g v n xs) : sLen v = n := by
  obtain ⟨p, c, rfl, _⟩ := h.form
  rfl

theorem chI_drop (l : List (List UInt8)) (i : Nat) (h : i < l.length) : chI (l.drop i) = be (l[i]'h).length 3 ++ ((l[i]'h) ++ (be ([] : List UInt8).length 2 ++ ([] ++ chI (l.drop (i + 1))))) := by
  rw [List.drop_eq_getElem_cons h]
  simp [chI, chB]
theorem chI_dropLen (l : List (List UInt8)) (i : Nat) : (chI (l.drop i)).length ≤ (chI l).length := by
  have h : ∀ (l : List (List UInt8)) (i : Nat), (chI (l.drop i)).length ≤ (chI l).length := by
    intro l
    induction l with
    | nil => intro i; simp
    | cons v l ih =>
      intro i
      cases i with
      | zero => simp
      | succ i =>
        rw [List.drop_succ_cons]
        have := ih i
        simp only [chI, List.length_append]
        omega
  exact h l i

theorem Try.undC : Try.prog.underlying 40 = some (.slice 23) := by kernel_rfl
theorem Try.infoB : (Try.prog.info? 23).map (fun i => (i.zero, i.size, i.bytes)) = some (some (.slice none 0 0), 1, 24) := by kernel_rfl

set_option maxHeartbeats 4000000 in
set_option maxRecDepth 100000 in
theorem getChain_c (S : Nat → Prop) (p : Option Addr) (n c : Nat) (l : List (List UInt8)) (w : World) (hok : okC l) (hR : Rd w S p (chX l)) (hp : p = none → c = 0) (hl : (chX l).length = n) :
    Calls Try.prog 17 #[.slice p n c] w (GotC w l) := by
  have hlen := chI_len hok
  obtain ⟨⟨l1, l4⟩, hall⟩ := hok
  have hX : chX l = be 0 1 ++ (be (chI l).length 3 ++ (chI l ++ [])) := by unfold chX; simp
  have hn : n ≤ 2000 := by rw [← hl, hX]; simp only [List.length_append, be_length, List.length_nil]; omega
  rw [hX] at hR hl
  have HR := Lib.hid (And.intro hR (And.intro hp (And.intro hl hall)))
  have HLL := Lib.hid hlen
  clear hR hp hl hX hall
  go_enter Try.func17, Try.ntmps17
  go_wp2_with fail
  refine (new_c S p n c _ w HR.out.1 HR.out.2.1 (by rw [HR.out.2.2.1]; omega) HR.out.2.2.1).mono ?_
  rintro e w1 ⟨r, g, rfl, k1, k2, k3, k4, k5⟩
  have H1 := Lib.hid (And.intro k4 k5)
  clear k4 k5
  go_wp2_with fail
  refine (uintV_c r g 0 1 _ w1 H1.out.1 (by omega) (by decide)).mono ?_
  rintro e w2 ⟨rfl, i1, o1⟩
  have H2 := Lib.hid (And.intro i1 o1)
  clear i1 o1
  go_wp2_with fail
  refine (vecV_c r g (chI l) [] 3 0 16777216 w2 H2.out.1 (by simp; omega) (by omega) (by simp only [Nat.reducePow]; omega) (by omega) (by omega)).mono ?_
  rintro e w3 ⟨g1, q1, m1, rfl, j1, j2, j3, j4⟩
  obtain ⟨NI, hNI⟩ : ∃ N, (chI l).length = N := ⟨_, rfl⟩
  rw [hNI] at hlen ⊢
  have B3 : Below w.heap.size w w3 := below_only H1.out.2 H1.out.2.size (H2.out.2.then j4) (by intro k hk e; omega)
  have H3 := Lib.hid (And.intro j3 (And.intro B3 (And.intro j2.rd (And.intro (own_nil j2) hNI))))
  have hz3 := B3.size
  have hr3 := j3.lt
  have hg3 := j3.glt
  clear j1 j2 j3 j4 B3 hNI
  go_wp2_with fail
  refine (new_c (· = g1) q1 NI m1 (chI l) w3 H3.out.2.2.1 H3.out.2.2.2.1 (by rw [H3.out.2.2.2.2]; omega) H3.out.2.2.2.2).mono ?_
  rintro e w4 ⟨r2, g2, rfl, k4, k5, k6, k7, k8⟩
  have hc4 : Cur w4 r g [] 0 := H3.out.1.only (Only.of_below (r := fun _ => False) k8) (fun h => h) (fun h => h)
  have hz4 := k8.size
  have hg4 := k7.glt
  have H4 := Lib.hid (And.intro k7 (And.intro hc4 (H3.out.2.1.trans (k8.mono H3.out.2.1.size))))
  clear k7 k8 hc4
  go_wp2_with fail
  go_loopw [5] (fun v5 wr => GRel w w4 l r g r2 g2 v5 wr) (fun v5 _ => l.length - sLen v5)
  case atStart => exact ⟨0, w4.heap.size, [], Nat.zero_le _, Row.nil _ _ _ _, fun _ => rfl, by omega, Nat.le_refl _, H4.out.1, H4.out.2.1, (fun j h hj => by omega), H4.out.2.2, Nat.le_refl _⟩
  case round =>
    obtain ⟨i, go, xs, hi, hrow, hnil, hgo, hgoS, hc2, hc1, hels, hB, hzS⟩ := hrel
    by_cases hlt : i < l.length
    · have hh := HR.out.2.2.2 _ (List.getElem_mem hlt)
      have hcd := chI_drop l i hlt
      have hdl := chI_dropLen l i
      have hLL := HLL.out
      obtain ⟨T, hT⟩ : ∃ T, T = be ([] : List UInt8).length 2 ++ ([] ++ chI (l.drop (i + 1))) := ⟨_, rfl⟩
      obtain ⟨V, hV⟩ : ∃ V, V = (l[i]'hlt) := ⟨_, rfl⟩
      rw [← hT, ← hV] at hcd
      rw [← hV] at hh
      have hdd : V.length + T.length ≤ 1000000 := by
        have := congrArg List.length hcd
        simp only [List.length_append] at this
        omega
      have hT2 : T.length ≤ 1000000 := by omega
      rw [hcd] at hc2
      have hTl : ([] : List UInt8).length + (chI (l.drop (i + 1))).length ≤ 1000000 := by
        have := congrArg List.length hT
        simp only [List.length_append] at this
        simp only [List.length_nil]
        omega
      obtain ⟨NS, hNS⟩ : ∃ N, (be V.length 3 ++ (V ++ T)).length = N := ⟨_, rfl⟩
      have hpos : (0 : Int) < (NS : Int) := by
        rw [List.length_append, be_length] at hNS
        omega
      have hgr2 : r2 < wr.heap.size := hc2.lt
      have K := Lib.hid (And.intro hrow (And.intro hnil (And.intro hgo (And.intro hc2 (And.intro hc1 (And.intro hels (And.intro hB hNS)))))))
      have KT := Lib.hid (And.intro hT (And.intro hV hdd))
      have KL := Lib.hid hTl
      have hvl := hh.1
      have hvu := hh.2
      clear hrow hnil hgo hc2 hc1 hels hB hT hV hcd hdl hLL hdd hNS hTl hh
      go_wp2_with fail
      refine (left_c r2 g2 _ 0 wr K.out.2.2.2.1).mono ?_
      rintro e w5 ⟨rfl, rfl⟩
      rw [K.out.2.2.2.2.2.2.2]
      go_wp2_with fail
      refine (isWrong_c r2 g2 _ 0 wr K.out.2.2.2.1).mono ?_
      rintro e w5 ⟨rfl, rfl⟩
      have hdf : decide ((0 : Int) ≠ 0) = false := by decide
      rw [hdf]
      clear hdf
      go_wp2_with fail
      refine (vecV_c r2 g2 V T 3 1 300 wr K.out.2.2.2.1 KT.out.2.2 (by omega) (by simp only [Nat.reducePow]; omega) (by omega) (by omega)).mono ?_
      rintro e w5 ⟨g3, q3, m3, rfl, j1, j2, j3, j4⟩
      obtain ⟨M3, hM3⟩ : ∃ M, V.length = M := ⟨_, rfl⟩
      rw [hM3] at j2 ⊢
      have hg3l : g3 < w5.heap.size := j2.lt (by rintro hh; injection hh with _ hh _; omega)
      have hz5 := j4.size
      have hal : Only (fun _ => False) w5 (w5.alloc (.cells #[.slice q3 M3 m3] 23)) := (Only.refl _ _).alloc _
      have hO5 : Only (· = r2) wr (w5.alloc (.cells #[.slice q3 M3 m3] 23)) := j4.alloc _
      have hzA : (w5.alloc (.cells #[.slice q3 M3 m3] 23)).heap.size = w5.heap.size + 1 := by simp
      obtain ⟨go2, hrow2, hgo2, hg23, hels2, hgo2l⟩ : ∃ go2, Row (w5.alloc (.cells #[.slice q3 M3 m3] 23)) 23 1 go2 u5 i xs ∧ w4.heap.size ≤ go2 ∧ g3 ≠ go2 ∧ Els wr l i xs w4.heap.size go2 ∧ (go2 < w5.heap.size ∨ go2 = w5.heap.size + 1) := by
        by_cases hi0 : i = 0
        · have hxs : xs = [] := by
            have hx := K.out.1.1.1
            rw [hi0] at hx
            exact List.eq_nil_of_length_eq_zero (by simpa using hx)
          subst hi0
          rw [K.out.2.1 rfl, hxs]
          exact ⟨w5.heap.size + 1, Row.nil _ _ _ _, by omega, by omega, (fun j h hj => by omega), .inr rfl⟩
        · have hlt2 := K.out.2.2.1 (by omega)
          exact ⟨go, K.out.1.only hO5 (by show ¬ go = r2; omega), hgoS, by omega, K.out.2.2.2.2.2.1, .inl (by omega)⟩
      have KK := Lib.hid (And.intro hrow2 (And.intro hels2 (And.intro j2 (And.intro j3 hM3))))
      have KO := Lib.hid hO5
      clear j2 j3 j4 hrow2 hels2 hal hM3
      go_wp2_with (at_builtin; refine wpList_append_row rfl (.tmp 26) (.tmp 29) 40 rfl 23 (.slice none 0 0) 1 24 Try.undC Try.infoB rfl (by decide) go2 u5 i xs rfl KK.out.1 ⟨w5.heap.size, 0, none⟩ 1 1 [.slice q3 M3 m3] rfl rfl (cell_one w5 _ _) (by simp [Value.oneCell']) (by simp only [maxLen]; omega) (by omega) (w5.heap.size + 1) (by simp) ?_; intro g6 v6 w6 hrow6 hg6 hO6)
      have hz6 := hO6.size
      rw [hzA] at hz6
      obtain ⟨p6, c6, rfl, hf6, -⟩ := Row.form hrow6
      have hc6 : Cur w6 r2 g2 T 0 := (KK.out.2.2.2.1.only ((Only.refl (fun _ => False) w5).alloc _) (fun h => h) (fun h => h)).only hO6 (by show ¬ r2 = go2; omega) (by show ¬ g2 = go2; omega)
      have hg6l : g6 < w6.heap.size := (hf6 (by omega)).2
      have hg6S : w4.heap.size ≤ g6 := by omega
      have K6 := Lib.hid (And.intro hrow6 (And.intro hO6 hc6))
      have hg6' : g6 = go2 ∨ g6 = w5.heap.size + 1 := hg6
      clear hrow6 hO6 hc6 hf6 hg6
      go_wp2_with fail
      refine (vecV_c r2 g2 [] (chI (l.drop (i + 1))) 2 0 0 w6 (KT.out.1 ▸ K6.out.2.2) KL.out (by omega) (by simp) (by simp) (by simp)).mono ?_
      rintro e w7 ⟨g7, q7, m7, rfl, j1, -, j3, j4⟩
      go_wp2
      have hz7 := j4.size
      have hxl : xs.length = i := by simpa using K.out.1.1.1
      have hB5 : Below w.heap.size w (w5.alloc (.cells #[.slice q3 M3 m3] 23)) := below_only K.out.2.2.2.2.2.2.1 (K.out.2.2.2.2.2.2.1).size KO.out (by intro k hk e; omega)
      have hB6 : Below w.heap.size w w6 := below_only hB5 hB5.size K6.out.2.1 (by intro k hk e; have := H4.out.2.2.size; omega)
      have hB7 : Below w.heap.size w w7 := below_only hB6 hB6.size j4 (by intro k hk e; omega)
      have hels7 : Els w7 l (i + 1) (xs ++ [.slice q3 M3 m3]) w4.heap.size g6 := by
        intro j hj hji
        by_cases hjl : j < i
        · obtain ⟨gq, q, m, k, a1, a2, a3, a4, a5, a6, a7⟩ := KK.out.2.1 j hj hjl
          have hg2r : ¬ gq = r2 := by omega
          refine ⟨gq, q, m, k, ?_, ?_, a3, a4, a5, by omega, by omega⟩
          · rw [List.getElem?_append_left (by omega)]
            exact a1
          · exact ((a2.only KO.out (fun b hb => by subst hb; exact hg2r)).only K6.out.2.1 (fun b hb => by subst hb; exact a7)).only j4 (fun b hb => by subst hb; exact hg2r)
        · have hje : j = i := by omega
          subst hje
          have hg3r : ¬ g3 = r2 := by omega
          refine ⟨g3, q3, M3, m3, ?_, ?_, ?_, own_nil KK.out.2.2.1, by omega, by omega, by omega⟩
          · rw [List.getElem?_append_right (by omega), hxl]
            simp
          · rw [← KT.out.2.1]
            exact ((KK.out.2.2.1.rd.only ((Only.refl (fun _ => False) w5).alloc _) (fun b hb h => h)).only K6.out.2.1 (fun b hb => by subst hb; exact hg23)).only j4 (fun b hb => by subst hb; exact hg3r)
          · rw [← KT.out.2.1]
            exact KK.out.2.2.2.2
      have hcr7 : Cur w7 r g [] 0 := ((K.out.2.2.2.2.1.only KO.out (by show ¬ r = r2; omega) (by show ¬ g = r2; omega)).only K6.out.2.1 (by show ¬ r = go2; omega) (by show ¬ g = go2; omega)).only j4 (by show ¬ r = r2; omega) (by show ¬ g = r2; omega)
      have hsl := Row.slen K.out.1
      refine ⟨⟨i + 1, g6, xs ++ [.slice q3 M3 m3], by omega, K6.out.1.only j4 (by show ¬ g6 = r2; omega), (fun h => by omega), (fun _ => by omega), hg6S, j3, hcr7, hels7, hB7, by omega⟩, ?_⟩
      rw [hsl]
      show l.length - (i + 1) < l.length - i
      omega
    · have hil : i = l.length := by omega
      have hd : l.drop i = [] := by rw [hil]; exact List.drop_length
      rw [hd] at hc2
      obtain ⟨a, cc, rfl, hf, hcell⟩ := Row.form hrow
      have K := Lib.hid (And.intro hrow (And.intro hc2 (And.intro hc1 (And.intro hels (And.intro hB (And.intro hf hcell))))))
      have hiL : i = l.length := hil
      have hi1 : ¬ (i : Int) < 1 := by omega
      have hi4 : ¬ (4 : Int) < (i : Int) := by omega
      clear hrow hnil hgo hc2 hc1 hels hB hf hcell hd hil
      go_wp2_with fail
      refine (left_c r2 g2 _ 0 wr K.out.2.1).mono ?_
      rintro e w5 ⟨rfl, rfl⟩
      have hz0 : ((chI []).length : Int) = 0 := rfl
      rw [hz0]
      clear hz0
      go_wp2_with fail
      refine (done_c r2 g2 [] 0 wr K.out.2.1).mono ?_
      rintro e w5 ⟨rfl, rfl⟩
      have hd0 : doneS [] 0 = 0 := rfl
      rw [hd0]
      go_wp2_with fail
      refine (done_c r g [] 0 wr K.out.2.2.1).mono ?_
      rintro e w5 ⟨rfl, rfl⟩
      rw [hd0]
      clear hd0
      go_wp2
      go_ret2
      have hf := K.out.2.2.2.2.2.1 (by omega)
      refine ⟨a, l.length, cc, rfl, ⟨rfl, fun j hj => ?_⟩, K.out.2.2.2.2.1⟩
      obtain ⟨gq, q, m, k, a1, a2, a3, a4, -⟩ := K.out.2.2.2.1 j hj (by omega)
      exact ⟨go, 0, q, m, k, hf.1, by rw [Nat.zero_add]; exact K.out.2.2.2.2.2.2 j _ a1, a2.mono (fun _ _ _ => trivial), a3, a4⟩
end Go.Proofs.Ytkgeecejgpekkaa
