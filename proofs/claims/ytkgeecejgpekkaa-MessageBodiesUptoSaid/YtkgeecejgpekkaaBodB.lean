/-
  The contracts of relayref09.PutChain, PutNew and PutVerify. Conditions: those of each.
-/
import Derived.Test.YtkgeecejgpekkaaBodA
import Derived.Test.YtkgeecejgpekkaaRefD
import Derived.Test.YtkgeecejgpekkaaStepA
import Derived.Deep.RegionHeld3
namespace Go.Proofs.Ytkgeecejgpekkaa
open Go.RowKit Go.Kx
set_option linter.unusedVariables false
set_option linter.unusedSimpArgs false

def RYes (w : World) (X : List UInt8) (e : Ending) (w' : World) : Prop := ∃ p n c, e = .returned (.tuple #[.slice p n c, .bool true]) ∧ X.length = n ∧ Rd w' (fun _ => True) p X ∧ (p = none → c = 0) ∧ Below w.heap.size w w'
def RNo (w : World) (e : Ending) (w' : World) : Prop := e = .returned (.tuple #[.slice none 0 0, .bool false]) ∧ Below w.heap.size w w'
def RRes (w : World) (ok : Prop) (X : List UInt8) (e : Ending) (w' : World) : Prop := (ok → RYes w X e w') ∧ (¬ ok → RNo w e w')

theorem vecW_c (S : Nat → Prop) (p : Option Addr) (n c : Nat) (l : List UInt8) (W : Nat) (w : World) (hR : Rd w S p l) (hp : p = none → c = 0) (hl : l.length = n) (hW : 1 ≤ W ∧ W ≤ 4) (hn : n < 256 ^ W) (hb : n ≤ 100000) :
    Calls Try.prog 22 #[.slice p n c, .int .i64 (W : Int)] w (PutYes w (be n W ++ l)) := by
  have HR := Lib.hid hR
  have HN := Lib.hid hn
  clear hR hn
  go_enter Try.func22, Try.ntmps22
  go_wp2_with (go_at_call 38; refine (rvec_c (fun _ => True) S none p 0 0 n c [] l W _ (Rd.nil _ _ _) (fun _ => rfl) rfl HR.out hp hl (by rw [hl]; show 0 + 4 + n ≤ _; omega) hW).mono ?_; rintro e w' ⟨hy, _⟩; obtain ⟨g, n1, c', rfl, hn1, h1, h2, h3, h4, h5, h6⟩ := hy HN.out; clear hy)
  go_ret
  exact ⟨g, n1, c', rfl, by simpa using hn1, h1, h2, h3, h4, by simpa using h5, h6⟩
theorem vec3w_c (S : Nat → Prop) (p : Option Addr) (n c : Nat) (l : List UInt8) (w : World) (hR : Rd w S p l) (hp : p = none → c = 0) (hl : l.length = n) (hb : n ≤ 100000) :
    Calls Try.prog 22 #[.slice p n c, .int .i64 3] w (PutYes w (be n 3 ++ l)) := vecW_c S p n c l 3 w hR hp hl (by omega) (by simp only [Nat.reducePow]; omega) hb
theorem vec2w_c (S : Nat → Prop) (p : Option Addr) (n c : Nat) (l : List UInt8) (w : World) (hR : Rd w S p l) (hp : p = none → c = 0) (hl : l.length = n) (hb : n ≤ 60000) :
    Calls Try.prog 22 #[.slice p n c, .int .i64 2] w (PutYes w (be n 2 ++ l)) := vecW_c S p n c l 2 w hR hp hl (by omega) (by simp only [Nat.reducePow]; omega) (by omega)
theorem vec1w_c (S : Nat → Prop) (p : Option Addr) (n c : Nat) (l : List UInt8) (w : World) (hR : Rd w S p l) (hp : p = none → c = 0) (hl : l.length = n) (hb : n ≤ 255) :
    Calls Try.prog 22 #[.slice p n c, .int .i64 1] w (PutYes w (be n 1 ++ l)) := vecW_c S p n c l 1 w hR hp hl (by omega) (by simp only [Nat.reducePow]; omega) (by omega)

theorem chI_snoc (l : List (List UInt8)) (v : List UInt8) : chI (l ++ [v]) = chI l ++ chB v := by
  induction l with
  | nil => simp [chI]
  | cons u l ih => simp [chI, ih]

/-- At the head of the loop over the chain. -/
def DRel (w : World) (l : List (List UInt8)) (v4 v5 : Value) (wr : World) : Prop := ∃ i g : Nat, v5 = .int .i64 (i : Int) ∧ i ≤ l.length ∧ Own wr g v4 (chI (l.take i)) ∧ w.heap.size ≤ g ∧ (∀ v ∈ l.take i, 1 ≤ v.length ∧ v.length ≤ 300) ∧ Below w.heap.size w wr

set_option maxHeartbeats 4000000 in
set_option maxRecDepth 100000 in
theorem rputChain_c (a : Option Addr) (n c : Nat) (l : List (List UInt8)) (w : World) (h : Ch w a n l) (hc : n ≤ c ∧ c ≤ maxLen) : Calls Try.prog 12 #[.slice a n c] w (RRes w (okC l) (chX l)) := by
  obtain rfl := h.1
  have H := Lib.hid h
  clear h
  by_cases h1 : (l.length : Int) < 1
  · have hb1 : decide ((l.length : Int) < 1) = true := decide_eq_true h1
    have hno : ¬ okC l := fun hk => by have := hk.1; omega
    have HN := Lib.hid hno
    clear hno hc
    go_enter Try.func12, Try.ntmps12
    go_wp2
    go_ret2
    exact ⟨fun hk => absurd hk HN.out, fun _ => ⟨rfl, Below.refl _ _⟩⟩
  by_cases h4 : (4 : Int) < (l.length : Int)
  · have hb1 : decide ((l.length : Int) < 1) = false := decide_eq_false h1
    have hb4 : decide ((4 : Int) < (l.length : Int)) = true := decide_eq_true h4
    have hno : ¬ okC l := fun hk => by have := hk.1; omega
    have HN := Lib.hid hno
    clear hno hc
    go_enter Try.func12, Try.ntmps12
    go_wp2
    go_ret2
    exact ⟨fun hk => absurd hk HN.out, fun _ => ⟨rfl, Below.refl _ _⟩⟩
  have hb1 : decide ((l.length : Int) < 1) = false := decide_eq_false h1
  have hb4 : decide ((4 : Int) < (l.length : Int)) = false := decide_eq_false h4
  have h14 : 1 ≤ l.length ∧ l.length ≤ 4 := by omega
  clear hc
  go_enter Try.func12, Try.ntmps12
  go_wp2
  go_loopw [4, 5] (fun v4 v5 wr => DRel w l v4 v5 wr) (fun _ v5 _ => l.length - (intOf v5).toNat)
  case atStart => exact ⟨0, w.heap.size, rfl, by omega, Own.nil _ _, Nat.le_refl _, (fun v hv => by simp at hv), Below.refl _ _⟩
  case round =>
    obtain ⟨i, g, rfl, hi, hO, hg, hall, hB⟩ := hrel
    have HO := Lib.hid hO
    have HB := Lib.hid hB
    have HA := Lib.hid hall
    by_cases hlt : i < l.length
    · obtain ⟨b, o, q, m, k, rfl, d0, hR, hm, hq⟩ := (H.out.below hB).2 i hlt
      have hlI : (i : Int) < (l.length : Int) := by omega
      have HR := Lib.hid (And.intro hR (And.intro hm hq))
      clear hO hB hall hR hm hq
      by_cases hm1 : (m : Int) < 1
      · have hbm : decide ((m : Int) < 1) = true := decide_eq_true hm1
        have hno : ¬ okC l := fun hk => by have := hk.2 _ (List.getElem_mem hlt); have := HR.out.2.1; omega
        have HN := Lib.hid hno
        clear hno
        go_wp2
        go_ret2
        exact ⟨fun hk => absurd hk HN.out, fun _ => ⟨rfl, HB.out⟩⟩
      · by_cases hm3 : (300 : Int) < (m : Int)
        · have hbm : decide ((m : Int) < 1) = false := decide_eq_false hm1
          have hbm3 : decide ((300 : Int) < (m : Int)) = true := decide_eq_true hm3
          have hno : ¬ okC l := fun hk => by have := hk.2 _ (List.getElem_mem hlt); have := HR.out.2.1; omega
          have HN := Lib.hid hno
          clear hno
          go_wp2
          go_ret2
          exact ⟨fun hk => absurd hk HN.out, fun _ => ⟨rfl, HB.out⟩⟩
        · have hbm : decide ((m : Int) < 1) = false := decide_eq_false hm1
          have hbm3 : decide ((300 : Int) < (m : Int)) = false := decide_eq_false hm3
          have hmb : m ≤ 300 := by omega
          obtain ⟨p4, c4, rfl, -, -, -, -, -⟩ := HO.out.form
          have hlen : (chI (l.take i)).length ≤ 1300 := by
            have hk : okC (l.take i) ∨ l.take i = [] := by
              by_cases h0 : i = 0
              · exact .inr (by rw [h0]; rfl)
              · exact .inl ⟨by rw [List.length_take]; omega, HA.out⟩
            rcases hk with hk | hk
            · exact Nat.le_trans (chI_len hk) (by omega)
            · rw [hk]; simp [chI]
          obtain ⟨NI, hNI⟩ : ∃ N, (chI (l.take i)).length = N := ⟨_, rfl⟩
          rw [hNI] at hlen ⊢
          have HO2 := Lib.hid (show Own wr g (.slice p4 NI c4) (chI (l.take i)) by rw [← hNI]; exact HO.out)
          have HNI := Lib.hid hNI
          clear HO hNI
          go_wp2_with fail
          refine (vec3w_c (fun _ => True) q m k (l[i]'hlt) _ HR.out.1 HR.out.2.2 HR.out.2.1 (by omega)).mono ?_
          rintro e w1 ⟨gv, nv, cv, rfl, kv, z1, z2, z3, z4, ov, bv⟩
          have hnv : nv ≤ 303 := by rw [← kv, List.length_append, be_length, HR.out.2.1]; omega
          have HV := Lib.hid (And.intro ov (And.intro kv (And.intro bv (Own.keep HO2.out bv))))
          have hzb := bv.size
          clear ov bv kv
          go_wp2_with (at_builtin; refine wpList_append_bytes _ rfl (.tmp 34) (.tmp 39) 23 rfl Try.underlying23 Try.info5 g _ (chI (l.take i)) rfl HV.out.2.2.2 (· = gv) _ nv cv (be m 3 ++ (l[i]'hlt)) rfl HV.out.2.1 (by intro h; cases h) HV.out.1.rd (by rw [HNI.out, HV.out.2.1]; omega) ?_)
          intro g2 v2 w2 o2 hg2 hO2 hn2
          have B2 : Below w.heap.size w w2 := below_only (HB.out.trans (HV.out.2.2.1.mono HB.out.size)) (Nat.le_trans HB.out.size hzb) hO2 (by intro k hk e; omega)
          have hz2 := hO2.size
          have hl2 : (chI (l.take i) ++ (be m 3 ++ (l[i]'hlt))).length ≤ 1700 := by rw [List.length_append, HNI.out, HV.out.2.1]; omega
          have H2 := Lib.hid (And.intro (o2.only ((Only.refl (fun _ => False) w2).alloc (.cells #[.int .u8 0, .int .u8 0] 5)) (fun h => h)) (And.intro (B2.alloc B2.size (.cells #[.int .u8 0, .int .u8 0] 5)) (And.intro (Rd.lit w2 [0, 0]) hl2)))
          have hgw : w.heap.size ≤ w1.heap.size := Nat.le_trans HB.out.size hzb
          have hg2w : w.heap.size ≤ g2 := by rcases hg2 with h | h <;> omega
          have hzB := B2.size
          clear o2 hO2 B2 hn2 hl2 hg2 hnv z1 z2 z3 z4
          go_wp2_with (at_builtin; refine wpList_append_bytes _ rfl (.tmp 40) (.tmp 41) 23 rfl Try.underlying23 Try.info5 g2 _ (chI (l.take i) ++ (be m 3 ++ (l[i]'hlt))) rfl H2.out.1 (· = w2.heap.size) _ 2 2 [0, 0] rfl rfl (by intro h; cases h) H2.out.2.2.1 (by have := H2.out.2.2.2; simp only [List.length_cons, List.length_nil]; omega) ?_)
          intro g3 v3 w3 o3 hg3 hO3 hn3
          have B3 : Below w.heap.size w w3 := below_only H2.out.2.1 H2.out.2.1.size hO3 (by intro k hk e; omega)
          have hg3w : w.heap.size ≤ g3 := by
            rcases hg3 with h | h
            · omega
            · have h2 : (w2.alloc (.cells #[.int .u8 0, .int .u8 0] 5)).heap.size = w2.heap.size + 1 := by simp
              omega
          have hst : chI (l.take i) ++ (be m 3 ++ (l[i]'hlt)) ++ [0, 0] = chI (l.take (i + 1)) := by
            rw [List.take_succ_eq_append_getElem hlt, chI_snoc, ← HR.out.2.1]
            simp [chB, be]
          have H3 := Lib.hid (And.intro (show Own w3 g3 v3 (chI (l.take (i + 1))) by rw [← hst]; simpa using o3) B3)
          have HA2 := Lib.hid (show ∀ v ∈ l.take (i + 1), 1 ≤ v.length ∧ v.length ≤ 300 from fun v hv => by
            rw [List.take_succ_eq_append_getElem hlt, List.mem_append] at hv
            rcases hv with hv | hv
            · exact HA.out v hv
            · rw [List.mem_singleton] at hv
              subst hv
              have := HR.out.2.1
              omega)
          clear o3 hO3 B3 hn3 hg3 hst
          go_wp2
          exact ⟨⟨i + 1, g3, by simp, by omega, H3.out.1, hg3w, HA2.out, H3.out.2⟩, by simp [intOf]; omega⟩
    · have hlI : ¬ (i : Int) < (l.length : Int) := by omega
      have hil : l.take i = l := List.take_of_length_le (by omega)
      rw [hil] at hO hall
      have hok : okC l := ⟨h14, hall⟩
      have hl := chI_len hok
      obtain ⟨p4, c4, rfl, -, -, hrd, hp4, -⟩ := hO.form
      obtain ⟨NI, hNI⟩ : ∃ N, (chI l).length = N := ⟨_, rfl⟩
      rw [hNI] at hl ⊢
      have HK := Lib.hid (And.intro hrd (And.intro hp4 (And.intro hNI hok)))
      have hB1 : Below w.heap.size w (wr.alloc (.cells #[.int .u8 0] 5)) := hB.alloc hB.size _
      have HL := Lib.hid (And.intro hB1 (And.intro (HK.out.1.below ((Below.refl _ wr).alloc (Nat.le_refl _) (.cells #[.int .u8 0] 5))) (Own.new wr)))
      clear hO hB hall hil hrd hp4 hNI hok hB1
      go_wp2_with fail
      refine (vec3w_c _ p4 NI c4 (chI l) _ HL.out.2.1 HK.out.2.1 HK.out.2.2.1 (by omega)).mono ?_
      rintro e w1 ⟨gv, nv, cv, rfl, kv, z1, z2, z3, z4, ov, bv⟩
      have hnv : nv ≤ 1223 := by rw [← kv, List.length_append, be_length, HK.out.2.2.1]; omega
      have o0 : Own (wr.alloc (.cells #[.int .u8 0] 5)) wr.heap.size (.slice (some ⟨wr.heap.size, 0, none⟩) 1 1) [0] :=
        ⟨⟨by simp, .inr ⟨wr.heap.size, 1, #[.int .u8 0], by simp, Nat.zero_le _, heap_alloc_new wr _, by simp, by simp [maxLen], by simp, by simp⟩⟩, .inr rfl⟩
      have HV := Lib.hid (And.intro ov (And.intro kv (And.intro (HL.out.1.trans (bv.mono HL.out.1.size)) (Own.keep o0 bv))))
      have hwr : w.heap.size ≤ wr.heap.size := HB.out.size
      clear ov bv kv o0
      go_wp2_with (at_builtin; refine wpList_append_bytes _ rfl (.tmp 43) (.tmp 45) 23 rfl Try.underlying23 Try.info5 wr.heap.size _ [0] rfl HV.out.2.2.2 (· = gv) _ nv cv (be NI 3 ++ chI l) rfl HV.out.2.1 (by intro h; cases h) HV.out.1.rd (by rw [HV.out.2.1]; simp only [List.length_cons, List.length_nil]; omega) ?_)
      intro g2 v2 w2 o2 hg2 hO2 hn2
      have B2 : Below w.heap.size w w2 := below_only HV.out.2.2.1 HV.out.2.2.1.size hO2 (by intro k hk e; omega)
      obtain ⟨p2, c2, rfl, -, -, r2, z2, -⟩ := o2.form
      have hX : chX l = [0] ++ (be NI 3 ++ chI l) := by unfold chX; rw [HK.out.2.2.1]; simp [be]
      have HF := Lib.hid (And.intro hX (And.intro r2 (And.intro z2 B2)))
      obtain ⟨NX, hNX⟩ : ∃ N, ([0] ++ (be NI 3 ++ chI l)).length = N := ⟨_, rfl⟩
      have HNX := Lib.hid hNX
      rw [show (0 :: (be NI 3 ++ chI l)).length = NX from hNX]
      clear hX r2 z2 B2 hn2 hO2 hg2 o2 hNX
      go_wp2
      go_ret2
      exact ⟨fun _ => ⟨p2, NX, c2, rfl, by rw [HF.out.1]; exact HNX.out, by rw [HF.out.1]; exact HF.out.2.1.mono (fun _ _ _ => trivial), HF.out.2.2.1, HF.out.2.2.2⟩, fun hk => absurd HK.out.2.2.2 hk⟩
end Go.Proofs.Ytkgeecejgpekkaa
