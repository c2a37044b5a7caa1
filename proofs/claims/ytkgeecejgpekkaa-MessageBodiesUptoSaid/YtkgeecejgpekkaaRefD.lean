/-
  The contracts of relayref07's PutUint and PutVector. Conditions: together at most 2 to the 47th bytes.
-/
import Derived.Test.YtkgeecejgpekkaaCurE
namespace Go.Proofs.Ytkgeecejgpekkaa
open Go.RowKit Go.Kx

def RPutNo (w : World) (e : Ending) (w' : World) : Prop := e = .returned (.tuple #[.slice none 0 0, .bool false]) ∧ Below w.heap.size w w'
def RPutYes (w : World) (l : List UInt8) (e : Ending) (w' : World) : Prop := ∃ g n c, e = .returned (.tuple #[.slice (some ⟨g, 0, none⟩) n c, .bool true]) ∧ l.length = n ∧ w.heap.size ≤ g ∧ g < w'.heap.size ∧ n ≤ c ∧ c ≤ maxLen ∧ Own w' g (.slice (some ⟨g, 0, none⟩) n c) l ∧ Below w.heap.size w w'

/-- One round of the power. -/
def MRel (wa : World) (W : Nat) (v8 v9 : Value) (wr : World) : Prop := ∃ (i : Nat) (z y : Int), v9 = .int .i64 z ∧ z = (i : Int) ∧ v8 = .int .i64 y ∧ y = ((256 ^ i : Nat) : Int) ∧ i ≤ W ∧ wr = wa

theorem rput_bad (v : Value) (n width : Int) (w : World) (h : ¬ ((1 ≤ width ∧ width ≤ 4) ∧ 0 ≤ n)) : Calls Try.prog 32 #[v, .int .i64 n, .int .i64 width] w (RPutNo w) := by
  by_cases h1 : width < 1
  · go_enter Try.func32, Try.ntmps32
    go_wp2
    all_goals go_ret2
    all_goals exact ⟨rfl, Below.refl _ _⟩
  · by_cases h2 : 4 < width
    · go_enter Try.func32, Try.ntmps32
      go_wp2
      all_goals go_ret2
      all_goals exact ⟨rfl, Below.refl _ _⟩
    · have h3 : n < 0 := by omega
      go_enter Try.func32, Try.ntmps32
      go_wp2
      all_goals go_ret2
      all_goals exact ⟨rfl, Below.refl _ _⟩

set_option maxHeartbeats 4000000 in
set_option maxRecDepth 100000 in
theorem rput_c (S : Nat → Prop) (p : Option Addr) (m c : Nat) (l : List UInt8) (n W : Nat) (w : World) (hR : Rd w S p l) (hp : p = none → c = 0) (hl : l.length + 4 ≤ 140737488355328) (hm : l.length = m) (hW : 1 ≤ W ∧ W ≤ 4) :
    Calls Try.prog 32 #[.slice p m c, .int .i64 (n : Int), .int .i64 (W : Int)] w (fun e w' => (n < 256 ^ W → RPutYes w (l ++ be n W) e w') ∧ (¬ n < 256 ^ W → RPutNo w e w')) := by
  subst hm
  have HR := Lib.hid hR
  clear hR
  go_enter Try.func32, Try.ntmps32
  go_wp2
  go_loopw [8, 9] (fun v8 v9 wr => MRel w W v8 v9 wr) (fun _ v9 _ => W - (intOf v9).toNat)
  case atStart => exact ⟨0, _, _, rfl, rfl, rfl, rfl, by omega, rfl⟩
  case round =>
    obtain ⟨i, z, y, rfl, hz, rfl, hy, hi, rfl⟩ := hrel
    by_cases hlt : i < W
    · have hi4 : (i = 0 ∧ z = 0 ∧ y = 1) ∨ (i = 1 ∧ z = 1 ∧ y = 256) ∨ (i = 2 ∧ z = 2 ∧ y = 65536) ∨ (i = 3 ∧ z = 3 ∧ y = 16777216) := by
        have h4 : i = 0 ∨ i = 1 ∨ i = 2 ∨ i = 3 := by omega
        rcases h4 with h | h | h | h
        all_goals
          subst h
          simp at hy hz
          simp [hy, hz]
      rcases hi4 with ⟨h, rfl, rfl⟩ | ⟨h, rfl, rfl⟩ | ⟨h, rfl, rfl⟩ | ⟨h, rfl, rfl⟩
      · clear hz hy
        go_wp2
        exact ⟨⟨i + 1, _, _, rfl, by omega, rfl, by simp [h], by omega, rfl⟩, by simp [intOf]; omega⟩
      · clear hz hy
        go_wp2
        exact ⟨⟨i + 1, _, _, rfl, by omega, rfl, by simp [h], by omega, rfl⟩, by simp [intOf]; omega⟩
      · clear hz hy
        go_wp2
        exact ⟨⟨i + 1, _, _, rfl, by omega, rfl, by simp [h], by omega, rfl⟩, by simp [intOf]; omega⟩
      · clear hz hy
        go_wp2
        exact ⟨⟨i + 1, _, _, rfl, by omega, rfl, by simp [h], by omega, rfl⟩, by simp [intOf]; omega⟩
    · have hiW : i = W := by omega
      subst hiW
      subst hz
      subst hy
      by_cases hn : n < 256 ^ i
      · have hV : ∃ M : Nat, M = 256 ^ i := ⟨_, rfl⟩
        obtain ⟨M, hM⟩ := hV
        rw [← hM] at hn ⊢
        have HM := Lib.hid hM
        have hMb : M ≤ 4294967296 := by rw [hM]; exact Nat.le_trans (Nat.pow_le_pow_right (by decide) hW.2) (by decide)
        clear hM hi hlt
        have hR' := Rd.below HR.out ((Below.refl _ _).alloc (Nat.le_refl _) (.cells #[] 5))
        have HR' := Lib.hid hR'
        clear hR'
        have ho := Own.new wr
        go_wp2_with (at_builtin; refine wpList_append_bytes _ rfl _ _ 23 rfl Try.underlying23 Try.info5 _ _ [] rfl ho S _ _ _ l rfl rfl hp HR'.out (by show 0 + l.length ≤ _; omega) ?_)
        intro g' v' w' ho' hg' hg hnil
        clear hnil ho
        have hg2 : wr.heap.size ≤ g' := by omega
        have hbel : Below wr.heap.size wr w' := (((Only.refl (fun k => k = wr.heap.size) wr).alloc (.cells #[] 5)).then hg).below (Nat.le_refl _) (by intro k hk e; omega)
        have HO0 := Lib.hid ho'
        have HB := Lib.hid hbel
        clear ho' hbel hg' hg
        obtain ⟨V, hV⟩ : ∃ V, V = i := ⟨_, rfl⟩
        obtain ⟨p0, c0, rfl, _⟩ := HO0.out.form
        obtain ⟨w0, hw0⟩ : ∃ x, x = wr := ⟨_, rfl⟩
        subst hw0
        rw [← hV]
        have hV4 : 1 ≤ V ∧ V ≤ 4 := by omega
        have HV := Lib.hid hV
        clear hV
        go_wp2
        go_loopw [10, 11] (fun v10 v11 wr => PRel w0 l n V v10 v11 wr) (fun _ v11 _ => (intOf v11 + 1).toNat)
        case atStart => exact ⟨V, _, g', [], rfl, by omega, by omega, by omega, by omega, by simpa using HO0.out, by simp, HB.out⟩
        case round =>
          obtain ⟨k, z, g, dn, rfl, hz, hk, hg, hgl, hO, hdn, hB⟩ := hrel
          have HO := Lib.hid hO
          have HDN := Lib.hid hdn
          have HBB := Lib.hid hB
          have hdl : dn.length + k ≤ 4 := by
            have := congrArg List.length hdn
            rw [List.length_append, be_length, be_length] at this
            omega
          clear hO hdn hB
          by_cases hk0 : k = 0
          · subst hk0
            obtain rfl : z = -1 := by omega
            clear hz hk
            obtain ⟨p2, c2, rfl, e1, e2, e3, e4, e5⟩ := HO.out.form
            go_wp2
            go_ret2
            have hd : dn = be n V := by have := HDN.out; simpa [be] using this
            subst hd
            cases p2 with
            | none => have h0 := congrArg List.length e3.none_nil; rw [List.length_append, be_length] at h0; simp at h0; omega
            | some a =>
              obtain ⟨rfl, hlt⟩ := e5 a rfl
              have hV := HV.out
              subst hV
              exact ⟨fun _ => ⟨g, _, c2, rfl, rfl, hg, hlt, e1, e2, HO.out, HBB.out⟩, fun h => absurd (HM.out ▸ hn) h⟩
          · obtain ⟨j, rfl⟩ : ∃ j, k = j + 1 := ⟨k - 1, by omega⟩
            have hj : (j = 0 ∧ z = 0) ∨ (j = 1 ∧ z = 1) ∨ (j = 2 ∧ z = 2) ∨ (j = 3 ∧ z = 3) := by omega
            have HK := Lib.hid hk
            clear hk
            rcases hj with ⟨hj, rfl⟩ | ⟨hj, rfl⟩ | ⟨hj, rfl⟩ | ⟨hj, rfl⟩
            all_goals
              clear hz
              have HJ := Lib.hid hj
              clear hj
              go_wp2_with (at_builtin; refine wpList_append_row rfl _ _ 23 rfl 5 (.int .u8 0) 1 1 Try.underlying23 Try.info5 rfl (by decide) g u10 (l ++ dn).length ((l ++ dn).map B8) rfl (Row.only HO.out ((Only.refl (fun _ => False) wr).alloc _) (fun h => h)) ⟨wr.heap.size, 0, none⟩ 1 1 [_] rfl rfl (cell_one wr _ _) (by simp [Value.oneCell']) (by simp only [maxLen, List.length_append]; omega) (by simp only [List.length_append]; omega) (wr.heap.size + 1) (by simp) ?_; intro gB' v7' w7 hrow hg' hO7)
              have z7 := hO7.size
              simp only [World.size_alloc] at z7
              have hb7 := below_only (HBB.out.alloc HBB.out.size _) (by simp; have := HBB.out.size; omega) hO7 (by intro k hk e; omega)
              have hs : w0.heap.size ≤ wr.heap.size := HBB.out.size
              obtain ⟨_, _, _, hf, _⟩ := Row.form hrow
              refine ⟨⟨j, _, gB', dn ++ [UInt8.ofNat (n / 256 ^ j)], rfl, by have := HJ.out; omega, by have := HK.out; omega, by omega, fun _ => (hf (by omega)).2, ?_, by rw [List.append_assoc]; exact HDN.out, hb7⟩, by simp [intOf]⟩
              rw [← List.append_assoc]
              refine own_snoc _ hrow ?_
              rw [HJ.out, UInt8.toNat_ofNat']
              omega
      · have hV : ∃ M : Nat, M = 256 ^ i := ⟨_, rfl⟩
        obtain ⟨M, hM⟩ := hV
        rw [← hM] at hn ⊢
        have HM := Lib.hid hM
        clear hM hi hlt
        go_wp2
        go_ret2
        exact ⟨fun h => absurd h (by rw [← HM.out]; exact hn), fun _ => ⟨rfl, Below.refl _ _⟩⟩

theorem rvec_bad (v : Value) (p2 : Option Addr) (m2 c2 : Nat) (width : Int) (w : World) (h : ¬ (1 ≤ width ∧ width ≤ 4)) : Calls Try.prog 38 #[v, .slice p2 m2 c2, .int .i64 width] w (RPutNo w) := by
  go_enter Try.func38, Try.ntmps38
  go_wp2_with (first | (go_at_call 32; refine (rput_bad _ (m2 : Int) width _ (fun hh => h hh.1)).mono ?_; rintro e w' ⟨rfl, hB⟩))
  go_ret2
  exact ⟨rfl, hB⟩

theorem rvec_c (S S2 : Nat → Prop) (p p2 : Option Addr) (m c m2 c2 : Nat) (l v : List UInt8) (W : Nat) (w : World) (hR : Rd w S p l) (hp : p = none → c = 0) (hm : l.length = m) (hR2 : Rd w S2 p2 v) (hp2 : p2 = none → c2 = 0) (hm2 : v.length = m2)
    (hl : l.length + 4 + v.length ≤ 140737488355328) (hW : 1 ≤ W ∧ W ≤ 4) :
    Calls Try.prog 38 #[.slice p m c, .slice p2 m2 c2, .int .i64 (W : Int)] w (fun e w' => (m2 < 256 ^ W → RPutYes w (l ++ be m2 W ++ v) e w') ∧ (¬ m2 < 256 ^ W → RPutNo w e w')) := by
  have HR := Lib.hid hR
  have HR2 := Lib.hid hR2
  clear hR hR2
  by_cases hn : m2 < 256 ^ W
  · have HN := Lib.hid hn
    clear hn
    go_enter Try.func38, Try.ntmps38
    go_wp2_with (first
      | (go_at_call 32; refine (rput_c S _ _ _ l m2 W _ HR.out hp (by omega) hm hW).mono ?_; rintro e w' ⟨hy, _⟩; obtain ⟨g, n1, c', rfl, hn1, h1, h2, h3, h4, h5, h6⟩ := hy HN.out; clear hy)
      | (at_builtin; refine wpList_append_bytes _ rfl _ _ 23 rfl Try.underlying23 Try.info5 g _ (l ++ be m2 W) rfl h5 S2 _ _ _ v rfl hm2 hp2 (HR2.out.below h6) (by rw [List.length_append, be_length]; omega) ?_; intro g' vx w2 ho' hg' hg hnil))
    have hn0 : vx ≠ .slice none 0 0 := fun e => by rcases hnil.1 e with h | h <;> exact absurd h.1 (by intro h2; cases h2)
    clear hnil
    obtain ⟨c3, rfl, k1, k2, k3⟩ := ho'.shape hn0
    go_wp2
    go_ret2
    exact ⟨fun _ => ⟨g', _, c3, rfl, rfl, by have := h6.size; omega, k3, k1, k2, ho', below_only h6 h6.size hg (by intro k hk e; omega)⟩, fun h => absurd HN.out h⟩
  · have HN := Lib.hid hn
    clear hn
    go_enter Try.func38, Try.ntmps38
    go_wp2_with (first
      | (go_at_call 32; refine (rput_c S _ _ _ l m2 W _ HR.out hp (by omega) hm hW).mono ?_; rintro e w' ⟨_, hy⟩; obtain ⟨rfl, h6⟩ := hy HN.out; clear hy))
    go_ret2
    exact ⟨fun h => absurd h HN.out, fun _ => ⟨rfl, h6⟩⟩
end Go.Proofs.Ytkgeecejgpekkaa
