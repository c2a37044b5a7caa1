/-
  The walk of HelloLimits: it returns true, and changes nothing that lay there. No condition.
-/
import Derived.Test.YtegmimnhkohaoaaZg7
import Derived.Test.YtegmimnhkohaoaaZHelM
import Derived.Test.YtegmimnhkohaoaaZHelZ
import Derived.Deep.CutRange
import Derived.Deep.OwnRows
namespace Go.Proofs.Ytegmimnhkohaoaa
open Go.RowKit Go.Kx
set_option linter.unusedVariables false
set_option linter.unusedSimpArgs false
set_option maxRecDepth 100000

def zl (b : Nat) : Z10 := { z10 with p2 := some ⟨b, 0, none⟩, n2 := 1, c2 := 1 }
theorem lim_is {w : World} {b : Nat} {S : Nat → Prop} (hb : Blk w b 3 #[.int .i64 1]) (hS : S b) : IsCl w S lim0 (zl b) := by
  have h := IsCl.zero w S
  refine ⟨h.len, h.s1, ⟨rfl, ?_, fun h => (by cases h), Nat.le_refl _, by simp only [zl, maxLen]; omega⟩, h.s3, h.s4, h.s5, h.s6, h.s7, h.s8, h.s9, h.s10⟩
  intro i hi
  have hi0 : i = 0 := by simp [lim0] at hi; exact hi
  subst hi0
  exact ⟨⟨b, 0, none⟩, rfl, hS, hb.c 0⟩
/-- What stays: the Client's block, its slices. -/
structure LJ (w : World) (s : Cl) (z : Z10) (q : Nat) (wx : World) : Prop where
  b : Blk wx q 48 (clV s z)
  i : IsCl wx (· ≠ q) s z
  bel : Below w.heap.size w wx
  lt : w.heap.size < q
theorem LJ.below {w wx wy : World} {s : Cl} {z : Z10} {q : Nat} (h : LJ w s z q wx) (hb : Below wx.heap.size wx wy) : LJ w s z q wy :=
  ⟨h.b.below hb, h.i.below hb, h.bel.trans (hb.mono h.bel.size), h.lt⟩
theorem LJ.put {w wx : World} {s s' : Cl} {z z' : Z10} {q : Nat} (h : LJ w s z q wx) (k : Nat) (v : Value) (hL : (clL z).set k v = clL z') (hs : s'.R = s.R) (hi : IsCl wx (· ≠ q) s' z') : LJ w s' z' q (wx.setCell ⟨q, 32 + k, none⟩ v) := by
  have ho : Only (· = q) wx (wx.setCell ⟨q, 32 + k, none⟩ v) := (Only.refl (fun k => k = q) wx).setCell _ _ (.inl rfl)
  have e : clV s' z' = clV s z' := by unfold clV; rw [hs]
  exact ⟨by rw [e]; exact h.b.putC h.i.len k v hL, hi.only ho (fun k hk e => hk e), below_only h.bel h.bel.size ho (by intro k hk e; have := h.lt; omega), h.lt⟩
theorem run_make8 (n : Nat) (h : n ≤ 1000) (w : World) : (Instr.makeSlice 23 (.int .i64 (n : Int)) (.int .i64 (n : Int))).run Try.prog w = .ok (.slice (some ⟨w.heap.size, 0, none⟩) n n) (w.alloc (.cells (Array.replicate n (B8 0)) 5)) := by
  have h1 := run_make_row' (P := Try.prog) 23 5 (.int .u8 0) 1 Try.underlying23 Try.info5 rfl .i64 .i64 n (by omega) (by omega) w
  have e : madeCells #[.int .u8 0] n = Array.replicate n (B8 0) := by
    rw [← Array.toArray_toList (xs := madeCells _ _), toList_madeCells_one, List.toArray_replicate]
    rfl
  rw [e] at h1
  exact h1
theorem zeros_rd (w : World) (n : Nat) {S : Nat → Prop} (hS : S w.heap.size) : Rd (w.alloc (.cells (Array.replicate n (B8 0)) 5)) S (some ⟨w.heap.size, 0, none⟩) (List.replicate n 0) := by
  intro i hi
  refine ⟨⟨w.heap.size, 0, none⟩, rfl, hS, ?_⟩
  have e : (⟨w.heap.size, 0, none⟩ : Addr).add i = ⟨w.heap.size, 0 + i, none⟩ := by unfold Addr.add; split <;> simp_all
  rw [e, (Blk.new w 5 _).c]
  simp at hi
  simp [hi]
theorem cells_lit (w : World) (L : List Value) (t : TypeId) : ∀ j u, L[j]? = some u → (w.alloc (.cells L.toArray t)).cell? ((⟨w.heap.size, 0, none⟩ : Addr).add j) = some u := by
  intro j u hu
  have e : (⟨w.heap.size, 0, none⟩ : Addr).add j = ⟨w.heap.size, 0 + j, none⟩ := by unfold Addr.add; split <;> simp_all
  rw [e, (Blk.new w t _).c, Nat.zero_add]
  simpa using hu
/-- What stands behind the switch. -/
def LimR (w : World) (more : Bool) (q : Nat) (wx : World) : Prop := ∃ s z, LJ w s z q wx ∧ (putC s).2 = more ∧ s.shs.length = 0 ∧ s.ids.length ≤ 5 ∧ Fit s
set_option maxHeartbeats 8000000 in
theorem helloLimits_c (wh : Int) (more : Bool) (w : World) : Calls Try.prog 4 #[.int .i64 wh, .bool more] w (BoolR w true) := by
  have hz := run_zeroRc
  go_enter Try.func4, Try.ntmps4
  go_upto_region 2 with (first
    | (refine wpList_build_eq (l := [(2, .slice (some ⟨w.heap.size, 0, none⟩) 1 1)]) rfl 48 _ rfl (C := clV lim0 (zl w.heap.size)) (by simp [Act.eval, Act.put]) (by kernel_rfl) ?_)
    | (refine st_blk rfl 48 (.tmp 5) (.tmp 13) rfl (w.heap.size + 1) (clV lim0 (zl w.heap.size)) rfl rfl 48 (clV clZ z10) (by have h := Blk.new (w.alloc (.cells #[.int .i64 1] 3)) 48 (clV clZ z10); rw [World.size_alloc] at h; exact h) (by rw [clV_size _ _ rfl]; exact Try.infoRc) (by rw [clV_size _ _ rfl, clV_size _ _ rfl]) (clV_ones _ _) ?_; intro w5 hb5 ho5; have H5 := Lib.hid (And.intro hb5 ho5); clear hb5 ho5))
  have hJ5 : LJ w lim0 (zl w.heap.size) (w.heap.size + 1) w5 := by
    have h1 : Blk (w.alloc (.cells #[.int .i64 1] 3)) w.heap.size 3 #[.int .i64 1] := Blk.new _ _ _
    have h2 : Below (w.alloc (.cells #[.int .i64 1] 3)).heap.size (w.alloc (.cells #[.int .i64 1] 3)) ((w.alloc (.cells #[.int .i64 1] 3)).alloc (.cells (clV clZ z10) 48)) := (Below.refl _ _).alloc (Nat.le_refl _) _
    have h3 : Below w.heap.size w (w.alloc (.cells #[.int .i64 1] 3)) := (Below.refl _ _).alloc (Nat.le_refl _) _
    have h4 := h3.trans (h2.mono h3.size)
    exact ⟨H5.out.1, lim_is ((h1.below h2).only H5.out.2 (by omega)) (by omega), below_only h4 h4.size H5.out.2 (by intro k hk e; omega), by omega⟩
  clear hz
  have J5 := Lib.hid hJ5
  have JI := Lib.hid (show IsCl w5 (· < w.heap.size + 1) lim0 (zl w.heap.size) from by
    have h1 : Blk (w.alloc (.cells #[.int .i64 1] 3)) w.heap.size 3 #[.int .i64 1] := Blk.new _ _ _
    have h2 : Below (w.alloc (.cells #[.int .i64 1] 3)).heap.size (w.alloc (.cells #[.int .i64 1] 3)) ((w.alloc (.cells #[.int .i64 1] 3)).alloc (.cells (clV clZ z10) 48)) := (Below.refl _ _).alloc (Nat.le_refl _) _
    exact lim_is ((h1.below h2).only H5.out.2 (by omega)) (by omega))
  have hw5 := hJ5.b.lt
  clear hJ5 H5
  obtain ⟨q, hq⟩ : ∃ q, q = w.heap.size + 1 := ⟨_, rfl⟩
  obtain ⟨z, hzl⟩ : ∃ z, z = zl w.heap.size := ⟨_, rfl⟩
  rw [← hzl] at J5 JI
  rw [← hq] at J5 JI hw5 ⊢
  have HZL := Lib.hid hzl
  clear hq hzl
  go_upto_if 14 with (fail)
  go_cut [6] (fun v6 wx => v6 = .int .i64 ((mostN more : Nat) : Int) ∧ w5 = wx)
  case first =>
    cases more
    · go_wp2
      go_meet
      exact ⟨rfl, rfl⟩
    · go_wp2
      go_meet
      exact ⟨rfl, rfl⟩
  case rest =>
    obtain ⟨rfl, rfl⟩ := hcut
    obtain ⟨n, hn⟩ : ∃ n, n = mostN more := ⟨_, rfl⟩
    rw [← hn]
    have hn5 : n ≤ 5 := by rw [hn]; cases more <;> decide
    have hn4 : 4 ≤ n := by rw [hn]; cases more <;> decide
    have HN := Lib.hid hn
    clear hn
    go_wp2_with fail
    go_loopw [7, 8] (fun v7 v8 wr => ∃ (i : Nat) (p : Option Addr) (c g : Nat), v8 = .int .i64 (i : Int) ∧ v7 = .slice p i c ∧ i ≤ n ∧ Row wr 3 1 g (.slice p i c) i ((upI i).map I64) ∧ w5.heap.size ≤ g ∧ Below w5.heap.size w5 wr) (fun _ v8 _ => n - (intOf v8).toNat)
    case atStart => exact ⟨0, none, 0, w5.heap.size, rfl, rfl, Nat.zero_le _, Row.nil _ _ _ _, Nat.le_refl _, Below.refl _ _⟩
    case round =>
      obtain ⟨i, p, c, g, rfl, rfl, hi, hR, hqg, hB⟩ := hrel
      have I := Lib.hid (And.intro hR hB)
      have hzr := hB.size
      clear hR hB
      by_cases hlt : i < n
      · have HLT := Lib.hid hlt
        have hld : (i : Int) < (n : Int) := by omega
        have w2 : IntKind.i64.wrap ((i : Int) + 1) = ((i + 1 : Nat) : Int) := IntWalk.i64_in _ (by omega)
        have hba : Below wr.heap.size wr (wr.alloc (.cells #[.int .i64 (i : Int)] 3)) := (Below.refl _ _).alloc (Nat.le_refl _) _
        have HBA := Lib.hid hba
        clear hba hlt
        go_wp2_with (at_builtin; refine wpList_append_row rfl _ _ 43 rfl 3 (.int .i64 0) 1 8 Try.underlying43 Try.infoInt rfl (by decide) g (.slice p i c) i ((upI i).map I64) rfl (Row.only I.out.1 (Only.of_below (r := fun _ => False) HBA.out) (fun h => h)) ⟨wr.heap.size, 0, none⟩ 1 1 [.int .i64 (i : Int)] rfl rfl (cell_one wr _ _) (by simp [Value.oneCell']) (by simp only [maxLen]; omega) (by omega) (wr.heap.size + 1) (by simp) ?_; intro g4 v2 w7 hrow hg4 hO7q; have hO7 : Only (· = g) wr w7 := (Only.of_below (r := fun k => k = g) HBA.out).then hO7q; obtain ⟨p5, k5, rfl, -⟩ := Row.form hrow; have H7 := Lib.hid (And.intro hrow hO7); clear hrow hO7q hO7)
        go_roundw
        case rel =>
          refine ⟨i + 1, p5, k5, g4, by go_num, rfl, by have := HLT.out; omega, ?_, by omega, below_only I.out.2 hzr H7.out.2 (by intro k hk e; omega)⟩
          rw [upI_succ, List.map_append]
          exact H7.out.1
        case measure => have := HLT.out; simp [intOf]; omega
      · obtain rfl : n = i := by omega
        have hlx : (upI n).length = n := upI_len n
        obtain ⟨p', c', he, hRI, hpn, hnc, hcm⟩ := (show NuL wr (fun _ => False) ((upI n).map I64) (upI n) from rfl).at (by rw [hlx]; exact I.out.1)
        rw [hlx] at he hnc
        obtain rfl : p' = p := by cases he; rfl
        obtain rfl : c' = c := by cases he; rfl
        clear he
        have K := Lib.hid (And.intro hlx (And.intro (hRI.mono (T := fun k => k ≠ q) (fun k _ hk => by rcases hk with h | h; exact h.elim; show k ≠ q; omega)) (And.intro hpn (And.intro hnc hcm))))
        have J7 := Lib.hid (J5.out.below I.out.2)
        clear hlx hRI hpn hnc hcm hlt
        obtain ⟨k, hk, hk6⟩ := hopN wh 6 (by decide) (by decide)
        have hk' : wrap64 ((IntKind.u64.wrap wh).tmod 6) = (k : Int) := hk
        go_upto_block 2 with (fail)
        rw [hk']
        clear hk hk'
        go_cut [9] from 28 to 72 (fun _ wx => LimR w more q wx)
        case first =>
          have f := fun o => J7.out.b.fr o
          have d33 := J7.out.b.d33 rfl
          have d34 := J7.out.b.d34 rfl
          have d35 := J7.out.b.d35 rfl
          have d36 := J7.out.b.d36 rfl
          have d39 := J7.out.b.d39 rfl
          have f33 := f 33
          have f34 := f 34
          have f35 := f 35
          have f36 := f 36
          have f39 := f 39
          clear f
          have hcase : k = 0 ∨ k = 1 ∨ k = 2 ∨ k = 3 ∨ k = 4 ∨ k = 5 := by omega
          rcases hcase with rfl | rfl | rfl | rfl | rfl | rfl
          · go_wp2
            go_meet
            refine ⟨limS 0 n, { z with p3 := p', n3 := n, c3 := c' }, J7.out.put 2 _ rfl rfl ?_, ?_, rfl, Nat.zero_le _, ?_⟩
            · have h := J7.out.i
              exact ⟨h.len, h.s1, h.s2, ⟨K.out.1, K.out.2.1, K.out.2.2.1, K.out.2.2.2.1, K.out.2.2.2.2⟩, h.s4, h.s5, h.s6, h.s7, h.s8, h.s9, h.s10⟩
            · rw [HN.out]; exact lim_bad more 0 (by decide)
            · exact lim_fit 0 n hn5
          · go_wp2
            go_meet
            refine ⟨limS 1 n, { z with p4 := p', n4 := n, c4 := c' }, J7.out.put 3 _ rfl rfl ?_, ?_, rfl, Nat.zero_le _, ?_⟩
            · have h := J7.out.i
              exact ⟨h.len, h.s1, h.s2, h.s3, ⟨K.out.1, K.out.2.1, K.out.2.2.1, K.out.2.2.2.1, K.out.2.2.2.2⟩, h.s5, h.s6, h.s7, h.s8, h.s9, h.s10⟩
            · rw [HN.out]; exact lim_bad more 1 (by decide)
            · exact lim_fit 1 n hn5
          · go_wp2
            go_meet
            refine ⟨limS 2 n, { z with p5 := p', n5 := n, c5 := c' }, J7.out.put 4 _ rfl rfl ?_, ?_, rfl, Nat.zero_le _, ?_⟩
            · have h := J7.out.i
              exact ⟨h.len, h.s1, h.s2, h.s3, h.s4, ⟨K.out.1, K.out.2.1, K.out.2.2.1, K.out.2.2.2.1, K.out.2.2.2.2⟩, h.s6, h.s7, h.s8, h.s9, h.s10⟩
            · rw [HN.out]; exact lim_bad more 2 (by decide)
            · exact lim_fit 2 n hn5
          · have hmk := run_make8 n (by omega)
            have hb2 : Below wr.heap.size wr (wr.alloc (.cells (Array.replicate n (B8 0)) 5)) := (Below.refl _ _).alloc (Nat.le_refl _) _
            have J8 := Lib.hid (J7.out.below hb2)
            have HR := Lib.hid (zeros_rd wr n (S := fun k => k ≠ q) (by omega))
            have d39 := J8.out.b.d39 rfl
            have f39 := J8.out.b.fr 39
            clear hb2
            go_wp2
            go_meet
            refine ⟨limS 3 n, { z with p8 := some ⟨wr.heap.size, 0, none⟩, n8 := n, c8 := n }, J8.out.put 7 _ rfl rfl ?_, ?_, rfl, Nat.zero_le _, ?_⟩
            · have h := J8.out.i
              exact ⟨h.len, h.s1, h.s2, h.s3, h.s4, h.s5, h.s6, h.s7, ⟨List.length_replicate, HR.out, fun h => (by cases h), Nat.le_refl _, by simp only [maxLen]; omega⟩, h.s9, h.s10⟩
            · rw [HN.out]; exact lim_bad more 3 (by decide)
            · exact lim_fit 3 n hn5
          · obtain ⟨_, _, he, hf, hcs⟩ := Row.form I.out.1
            obtain ⟨hpg, hgl⟩ := hf (by omega)
            cases he
            subst hpg
            have hb2 : Below wr.heap.size wr (wr.alloc (.cells #[] 3)) := (Below.refl _ _).alloc (Nat.le_refl _) _
            have HB2 := Lib.hid hb2
            have hnews : ∀ j u, ((upI n).map I64)[j]? = some u → (wr.alloc (.cells #[] 3)).cell? ((⟨g, 0, none⟩ : Addr).add j) = some u := by
              intro j u hu
              have e : (⟨g, 0, none⟩ : Addr).add j = ⟨g, 0 + j, none⟩ := by unfold Addr.add; split <;> simp_all
              rw [e, Nat.zero_add]
              have h := hcs j u hu
              rw [World.cell?_alloc_lt _ _ _ (World.block_lt_of_cell? wr _ h)]
              exact h
            have HNW := Lib.hid hnews
            have hlm : ((upI n).map I64).length = n * 1 := by rw [List.length_map, upI_len]; omega
            have HLM := Lib.hid hlm
            clear hb2 hnews hcs hlm
            go_wp2_with (first
              | (at_builtin; have hq := H8; refine wpList_append_row rfl _ _ 43 rfl 3 (.int .i64 0) 1 8 Try.underlying43 Try.infoInt rfl (by decide) g8 (.slice p8 n k8) n ((upI n).map I64) rfl (Row.only H8.out.1 (Only.of_below (r := fun _ => False) ((Below.refl _ _).alloc (Nat.le_refl _) _)) (fun h => h)) ⟨w8.heap.size, 0, none⟩ 4 4 [.int .i64 5, .int .i64 6, .int .i64 7, .int .i64 8] rfl rfl (cells_lit w8 _ _) (by simp [Value.oneCell']) (by simp only [maxLen]; omega) (by omega) (w8.heap.size + 1) (by simp) ?_; intro g9 v2 w9 hrow hg9 hO9q; have hO9 : Only (· = g8) w8 w9 := (Only.of_below (r := fun k => k = g8) ((Below.refl _ _).alloc (Nat.le_refl _) _)).then hO9q; obtain ⟨p9, k9, rfl, -⟩ := Row.form hrow; have hbl9 := below_only H8.out.2.1 H8.out.2.1.size hO9 (by intro k hk e; have := H8.out.2.2; omega); have J9 := Lib.hid (J7.out.below hbl9); have d33 := J9.out.b.d33 rfl; have f33 := J9.out.b.fr 33; have H9 := Lib.hid (And.intro hrow (by rcases hg9 with h | h; (have := H8.out.2.2; omega); (have := H8.out.2.1.size; omega) : wr.heap.size ≤ g9)); clear hrow hO9q hO9 hbl9)
              | (at_builtin; refine wpList_append_row rfl _ _ 43 rfl 3 (.int .i64 0) 1 8 Try.underlying43 Try.infoInt rfl (by decide) wr.heap.size (.slice (some ⟨wr.heap.size, 0, none⟩) 0 0) 0 [] rfl (Row.new wr _ _) ⟨g, 0, none⟩ n c' ((upI n).map I64) rfl HLM.out HNW.out (by simp [Value.oneCell']) (by simp only [maxLen]; omega) (by omega) (wr.heap.size + 1) (by simp) ?_; intro g8 v2 w8 hrow hg8 hO8; rw [Nat.zero_add, List.nil_append] at hrow; obtain ⟨p8, k8, rfl, -⟩ := Row.form hrow; have H8 := Lib.hid (And.intro hrow (And.intro (below_only HB2.out HB2.out.size hO8 (by intro k hk e; omega)) (by omega : wr.heap.size ≤ g8))); clear hrow hO8))
            go_meet
            have hat := (show NuL w9 (fun _ => False) ((upI n).map I64 ++ [.int .i64 5, .int .i64 6, .int .i64 7, .int .i64 8]) (upI n ++ [5, 6, 7, 8]) by unfold NuL; rw [List.map_append]; rfl).at (by rw [List.length_append, upI_len]; exact H9.out.1)
            have hln : (upI n ++ [5, 6, 7, 8]).length = n + 4 := by rw [List.length_append, upI_len]; rfl
            rw [hln] at hat
            obtain ⟨p', cc, he, hRI, hpn, hnc, hcm⟩ := hat
            cases he
            refine ⟨limS 4 n, { z with p2 := p9, n2 := n + 4, c2 := k9 }, J9.out.put 1 _ rfl rfl ?_, ?_, rfl, Nat.zero_le _, ?_⟩
            · have h := J9.out.i
              exact ⟨h.len, h.s1, ⟨hln, hRI.mono (fun k _ hk => by rcases hk with h | h; exact h.elim; show k ≠ q; have := H9.out.2; omega), hpn, hnc, hcm⟩, h.s3, h.s4, h.s5, h.s6, h.s7, h.s8, h.s9, h.s10⟩
            · rw [HN.out]; exact lim_bad more 4 (by decide)
            · exact lim_fit 4 n hn5
          · have hQ0 : LQ w q 0 z none 0 [] none 0 [] wr := by
              have hz9 : ({ z with p9 := none, n9 := 0, c9 := 0, p10 := none, n10 := 0, c10 := 0 } : Z10) = z := by rw [HZL.out]; rfl
              refine ⟨by rw [hz9]; exact J7.out.b, JI.out.below I.out.2, J7.out.bel, J7.out.lt, (Row.nil _ _ _ 0).1, (Row.nil _ _ _ 0).1, ?_, ?_, ?_, IdL.nil _ _, bdK.nil _ _⟩
              · intro k hk; cases hk
              · intro k hk; cases hk
              · intro k hk; cases hk
            have HQ0 := Lib.hid hQ0
            clear hQ0 d33 d34 d35 d36 d39 f33 f34 f35 f36 f39 I K J7
            go_wp2_with fail
            go_loopw [9] (fun v9 W => ∃ (i : Nat) (p9 : Option Addr) (c9 : Nat) (L9 : List Value) (p10 : Option Addr) (c10 : Nat) (L10 : List Value), v9 = .int .i64 (i : Int) ∧ i ≤ n ∧ LQ w q i z p9 c9 L9 p10 c10 L10 W) (fun v9 _ => n - (intOf v9).toNat)
            case atStart => exact ⟨0, none, 0, [], none, 0, [], rfl, Nat.zero_le _, HQ0.out⟩
            case round =>
              clear HQ0
              obtain ⟨W, hW⟩ : ∃ W : World, W = wr := ⟨_, rfl⟩
              rw [← hW] at hrel ⊢
              clear hW
              obtain ⟨i, p9, c9, L9, p10, c10, L10, rfl, hi, hQ⟩ := hrel
              have HQ := Lib.hid hQ
              clear hQ
              by_cases hlt : i < n
              · have HLT := Lib.hid hlt
                have hld : (i : Int) < (n : Int) := by omega
                have w2 : IntKind.i64.wrap ((i : Int) + 1) = ((i + 1 : Nat) : Int) := IntWalk.i64_in _ (by omega)
                have hmk : ∀ w : World, (Instr.makeSlice 23 (.int .i64 32) (.int .i64 32)).run Try.prog w = .ok (.slice (some ⟨w.heap.size, 0, none⟩) 32 32) (w.alloc (.cells (Array.replicate 32 (B8 0)) 5)) := run_make8 32 (by omega)
                have HS := Lib.hid (fun (ux : World) (h : Only (fun k => ownB p9 i c9 k ∨ ownB p10 i c10 k) W ux) => (show ux.cell? ⟨q, 40, none⟩ = some (.slice p9 i c9) ∧ ux.cell? ⟨q, 41, none⟩ = some (.slice p10 i c10) from by
                  have hb := HQ.out.b.only h (fun hk => by rcases hk with hk | hk; (have := HQ.out.x9 _ hk; omega); (have := HQ.out.x10 _ hk; omega))
                  exact ⟨hb.d40 rfl, hb.d41 rfl⟩))
                have HF := Lib.hid (fun (ux : World) (h : Only (fun k => ownB p9 i c9 k ∨ ownB p10 i c10 k) W ux) => (show ux.frozen? ⟨q, 40, none⟩ = false ∧ ux.frozen? ⟨q, 41, none⟩ = false from by
                  have hb := HQ.out.b.only h (fun hk => by rcases hk with hk | hk; (have := HQ.out.x9 _ hk; omega); (have := HQ.out.x10 _ hk; omega))
                  exact ⟨hb.fr 40, hb.fr 41⟩))
                have hba0 : Below W.heap.size W W.drew := (Below.refl _ _).drew
                go_wp2_with fail
                refine wp_region_tail (S := fun w' => w'.cell? ⟨q, 40, none⟩ = some (.slice p9 i c9) ∧ w'.cell? ⟨q, 41, none⟩ = some (.slice p10 i c10)) (n := 12) (by kernel_rfl) (by decide) ?_
                try simp only [List.drop_succ_cons, List.drop_zero]
                obtain ⟨u0, hu0⟩ : ∃ u, u = W.drew := ⟨_, rfl⟩
                rw [← hu0] at hba0 ⊢
                have hba : Below W.heap.size W u0 := hba0
                clear hu0 hba0
                have O9 := owns_only HQ.out.r9 (Only.of_below (r := fun _ => False) hba) (fun _ _ h => h)
                have O10 := owns_only HQ.out.r10 (Only.of_below (r := fun _ => False) hba) (fun _ _ h => h)
                have HB : Only (fun k => ownB p9 i c9 k ∨ ownB p10 i c10 k) W u0 := Only.of_below hba
                clear hba hlt
                -- REG25
                refine wpAnyT_take (i := 0) (oi := _) (v := .pointer (some ⟨q, 40, none⟩)) rfl (by kernel_rfl) (fun _ _ _ h => h) (by rfl) (by intro wq hSw; obtain ⟨s40, s41⟩ := hSw; go_simp) (HS.out _ HB) ?_
                try simp only [Act.put, List.setIfInBounds_toArray, List.set_cons_zero, List.set_cons_succ]
                refine wpAnyT_take (i := 1) (oi := _) (v := .slice p9 i c9) rfl (by kernel_rfl) (fun _ _ _ h => h) (by rfl) (by intro wq hSw; obtain ⟨s40, s41⟩ := hSw; go_simp) (HS.out _ HB) ?_
                try simp only [Act.put, List.setIfInBounds_toArray, List.set_cons_zero, List.set_cons_succ]
                refine wpAnyT_take (i := 6) (oi := _) (v := .pointer (some ⟨q, 41, none⟩)) rfl (by kernel_rfl) (fun _ _ _ h => h) (by rfl) (by intro wq hSw; obtain ⟨s40, s41⟩ := hSw; go_simp) (HS.out _ HB) ?_
                try simp only [Act.put, List.setIfInBounds_toArray, List.set_cons_zero, List.set_cons_succ]
                refine wpAnyT_take (i := 7) (oi := _) (v := .slice p10 i c10) rfl (by kernel_rfl) (fun _ _ _ h => h) (by rfl) (by intro wq hSw; obtain ⟨s40, s41⟩ := hSw; go_simp) (HS.out _ HB) ?_
                try simp only [Act.put, List.setIfInBounds_toArray, List.set_cons_zero, List.set_cons_succ]
                refine wpAnyT_ready (rs := [2, 8]) (by kernel_rfl) (by simp) ?_
                refine AllReadyT.cons rfl (by decide) (fun K hK => ?_) ?_
                · go_simp
                  refine hK.out _ _ (HS.out _ (HB.then (Only.of_below ((Below.refl _ _).alloc (Nat.le_refl _) _)))) ?_
                  clear hK K
                  try simp only [Act.put, List.setIfInBounds_toArray, List.set_cons_zero, List.set_cons_succ]
                  refine wpAnyT_alloc ?_
                  intro u1 hb V62
                  replace O9 := owns_only O9 (Only.of_below (r := fun _ => False) hb) (fun _ _ h => h)
                  replace O10 := owns_only O10 (Only.of_below (r := fun _ => False) hb) (fun _ _ h => h)
                  have l62 : W.heap.size ≤ u0.heap.size := HB.size
                  have z1 := hb.size
                  have t1 := V62.lt
                  replace HB := HB.then (Only.of_below hb)
                  clear hb
                  generalize u0.heap.size = b62 at *
                  refine wpAnyT_take (i := 3) (oi := _) (v := .agg #[.slice (some ⟨b62, 0, none⟩) 1 1, .int .i64 0]) rfl (by kernel_rfl) (fun _ _ _ h => h) (by rfl) (by intro wq hSw; obtain ⟨s40, s41⟩ := hSw; go_simp) (HS.out _ HB) ?_
                  try simp only [Act.put, List.setIfInBounds_toArray, List.set_cons_zero, List.set_cons_succ]
                  refine wpAnyT_ready (rs := [4, 8]) (by kernel_rfl) (by simp) ?_
                  refine AllReadyT.cons rfl (by decide) (fun K hK => ?_) ?_
                  · go_simp
                    refine hK.out _ _ (HS.out _ (HB.then (Only.of_below ((Below.refl _ _).alloc (Nat.le_refl _) _)))) ?_
                    clear hK K
                    try simp only [Act.put, List.setIfInBounds_toArray, List.set_cons_zero, List.set_cons_succ]
                    refine wpAnyT_alloc ?_
                    intro u2 hb V64
                    replace V62 := V62.below hb
                    replace O9 := owns_only O9 (Only.of_below (r := fun _ => False) hb) (fun _ _ h => h)
                    replace O10 := owns_only O10 (Only.of_below (r := fun _ => False) hb) (fun _ _ h => h)
                    have l64 : W.heap.size ≤ u1.heap.size := HB.size
                    have z2 := hb.size
                    have t2 := V64.lt
                    replace HB := HB.then (Only.of_below hb)
                    clear hb
                    generalize u1.heap.size = b64 at *
                    refine wpAnyT_ready (rs := [5, 8]) (by kernel_rfl) (by simp) ?_
                    refine AllReadyT.cons rfl (by decide) (fun K hK => ?_) ?_
                    · refine step_append_own rfl _ _ 45 rfl 51 (.agg #[.slice none 0 0, .int .i64 0]) 2 32 Try.underlying45 Try.infoIdR rfl (by decide) (.slice p9 i c9) i L9 (by simp [Act.eval, Act.put]) O9 ⟨b64, 0, none⟩ 1 1 [.slice (some ⟨b62, 0, none⟩) 1 1, .int .i64 0] (by simp [Act.eval, Act.put]) rfl (blk_news V64) (by simp [Value.oneCell']) (by simp only [maxLen]; omega) (by omega) ?_
                      intro g9 v9 u3 hrow hg9' hO
                      refine hK.out _ _ (HS.out _ (HB.then (hO.mono (fun _ _ h => .inl h)))) ?_
                      clear hK K
                      try simp only [Act.put, List.setIfInBounds_toArray, List.set_cons_zero, List.set_cons_succ]
                      have t3V62 := V62.lt
                      replace V62 := V62.only hO (fun h => by have := (HQ.out.x9 _ h).2; omega)
                      have t3V64 := V64.lt
                      replace V64 := V64.only hO (fun h => by have := (HQ.out.x9 _ h).2; omega)
                      replace O10 := owns_only O10 hO (fun k h1 h2 => HQ.out.ne k h2 h1)
                      have hz := HB.size
                      have hg9 : ownB p9 i c9 g9 ∨ W.heap.size ≤ g9 := hg9'.imp id (fun h => by omega)
                      have hg9q : g9 < W.heap.size ∨ g9 = u2.heap.size := hg9'.imp (fun h => (HQ.out.x9 _ h).2) id
                      have n1 : b62 ≠ g9 := by omega
                      obtain ⟨q9, k9, rfl, -⟩ := Row.form hrow
                      have R9 := hrow
                      have r9 := (row_own R9 (by omega)).2.1
                      have z3 := hO.size
                      replace HB := HB.then (hO.mono (fun _ _ h => .inl h))
                      clear hO hrow hg9' O9 hz
                      refine wpAnyT_take (i := 11) (oi := _) (v := .pointer (some ⟨q, 40, none⟩)) rfl (by kernel_rfl) (fun _ _ _ h => h) (by rfl) (by intro wq hSw; obtain ⟨s40, s41⟩ := hSw; go_simp) (HS.out _ HB) ?_
                      try simp only [Act.put, List.setIfInBounds_toArray, List.set_cons_zero, List.set_cons_succ]
                      refine wpAnyT_ready (rs := [8]) (by kernel_rfl) (by simp) ?_
                      refine AllReadyT.cons rfl (by decide) (fun K hK => ?_) ?_
                      · go_simp
                        refine hK.out _ _ (HS.out _ (HB.then (Only.of_below ((Below.refl _ _).alloc (Nat.le_refl _) _)))) ?_
                        clear hK K
                        try simp only [Act.put, List.setIfInBounds_toArray, List.set_cons_zero, List.set_cons_succ]
                        refine wpAnyT_alloc ?_
                        intro u4 hb V68
                        replace V62 := V62.below hb
                        replace V64 := V64.below hb
                        replace R9 := R9.only (Only.of_below (r := fun _ => False) hb) (fun h => h)
                        replace O10 := owns_only O10 (Only.of_below (r := fun _ => False) hb) (fun _ _ h => h)
                        have l68 : W.heap.size ≤ u3.heap.size := HB.size
                        have z4 := hb.size
                        have t4 := V68.lt
                        have n3 : u3.heap.size ≠ g9 := by omega
                        replace HB := HB.then (Only.of_below hb)
                        clear hb
                        generalize u3.heap.size = b68 at *
                        refine wpAnyT_ready (rs := [9]) (by kernel_rfl) (by simp) ?_
                        refine AllReadyT.cons rfl (by decide) (fun K hK => ?_) ?_
                        · go_simp
                          refine hK.out _ _ (HS.out _ (HB.then (Only.of_below ((Below.refl _ _).alloc (Nat.le_refl _) _)))) ?_
                          clear hK K
                          try simp only [Act.put, List.setIfInBounds_toArray, List.set_cons_zero, List.set_cons_succ]
                          refine wpAnyT_alloc ?_
                          intro u5 hb V69
                          replace V62 := V62.below hb
                          replace V64 := V64.below hb
                          replace V68 := V68.below hb
                          replace R9 := R9.only (Only.of_below (r := fun _ => False) hb) (fun h => h)
                          replace O10 := owns_only O10 (Only.of_below (r := fun _ => False) hb) (fun _ _ h => h)
                          have l69 : W.heap.size ≤ u4.heap.size := HB.size
                          have z5 := hb.size
                          have t5 := V69.lt
                          replace HB := HB.then (Only.of_below hb)
                          clear hb
                          generalize u4.heap.size = b69 at *
                          refine wpAnyT_ready (rs := [10]) (by kernel_rfl) (by simp) ?_
                          refine AllReadyT.cons rfl (by decide) (fun K hK => ?_) ?_
                          · refine step_append_own rfl _ _ 46 rfl 23 (.slice none 0 0) 1 24 Try.underlying46 Try.infoBsE rfl (by decide) (.slice p10 i c10) i L10 (by simp [Act.eval, Act.put]) O10 ⟨b69, 0, none⟩ 1 1 [.slice (some ⟨b68, 0, none⟩) 32 32] (by simp [Act.eval, Act.put]) rfl (blk_news V69) (by simp [Value.oneCell']) (by simp only [maxLen]; omega) (by omega) ?_
                            intro g10 v10 u6 hrow hg10' hO
                            refine hK.out _ _ (HS.out _ (HB.then (hO.mono (fun _ _ h => .inr h)))) ?_
                            clear hK K
                            try simp only [Act.put, List.setIfInBounds_toArray, List.set_cons_zero, List.set_cons_succ]
                            have t6V62 := V62.lt
                            replace V62 := V62.only hO (fun h => by have := (HQ.out.x10 _ h).2; omega)
                            have t6V64 := V64.lt
                            replace V64 := V64.only hO (fun h => by have := (HQ.out.x10 _ h).2; omega)
                            have t6V68 := V68.lt
                            replace V68 := V68.only hO (fun h => by have := (HQ.out.x10 _ h).2; omega)
                            have t6V69 := V69.lt
                            replace V69 := V69.only hO (fun h => by have := (HQ.out.x10 _ h).2; omega)
                            replace R9 := R9.only hO (fun h => hg9.elim (fun h1 => HQ.out.ne _ h1 h) (fun h1 => by have := (HQ.out.x10 _ h).2; omega))
                            have hz := HB.size
                            have hg10 : ownB p10 i c10 g10 ∨ W.heap.size ≤ g10 := hg10'.imp id (fun h => by omega)
                            have hg : g9 ≠ g10 := fun h => hg10'.elim (fun h1 => hg9.elim (fun h2 => HQ.out.ne _ h2 (by rw [h]; exact h1)) (fun h2 => by have := (HQ.out.x10 _ h1).2; omega)) (fun h1 => by omega)
                            have hg10q : g10 < W.heap.size ∨ g10 = u5.heap.size := hg10'.imp (fun h => (HQ.out.x10 _ h).2) id
                            have n2 : b62 ≠ g10 := by omega
                            have n4 : b68 ≠ g10 := by omega
                            obtain ⟨q10, k10, rfl, -⟩ := Row.form hrow
                            have R10 := hrow
                            replace HB := HB.then (hO.mono (fun _ _ h => .inr h))
                            clear hO hrow hg10' O10 hz
                            refine wpAnyT_tail (by kernel_rfl) ?_
                            have c40 := (HS.out _ HB).1
                            have c41 := (HS.out _ HB).2
                            have f40 := (HF.out _ HB).1
                            have f41 := (HF.out _ HB).2
                            have HZ := Lib.hid (HQ.out.step HB V62 V68 l62 l68 n1 n2 n3 n4 hg hg9 hg10 R9 R10)
                            clear hg9 hg10 HS HF HB R9 R10 V62 V64 V68 V69
                            go_wp2
                            go_roundw
                            case rel => refine ⟨_, _, _, _, _, _, _, _, _, _, _, _, _, _, _, _, _, _, _, ?_, rfl⟩; exact ⟨i + 1, _, _, _, _, _, _, by go_num, by have := HLT.out; omega, HZ.out⟩
                            case measure => have := HLT.out; simp [intOf]; omega
                          exact AllReadyT.nil
                        exact AllReadyT.nil
                      exact AllReadyT.nil
                    refine AllReadyT.cons rfl (by decide) (fun K hK => ?_) ?_
                    · go_simp
                      refine hK.out _ _ (HS.out _ (HB.then (Only.of_below ((Below.refl _ _).alloc (Nat.le_refl _) _)))) ?_
                      clear hK K
                      try simp only [Act.put, List.setIfInBounds_toArray, List.set_cons_zero, List.set_cons_succ]
                      refine wpAnyT_alloc ?_
                      intro u3 hb V68
                      replace V62 := V62.below hb
                      replace V64 := V64.below hb
                      replace O9 := owns_only O9 (Only.of_below (r := fun _ => False) hb) (fun _ _ h => h)
                      replace O10 := owns_only O10 (Only.of_below (r := fun _ => False) hb) (fun _ _ h => h)
                      have l68 : W.heap.size ≤ u2.heap.size := HB.size
                      have z3 := hb.size
                      have t3 := V68.lt
                      replace HB := HB.then (Only.of_below hb)
                      clear hb
                      generalize u2.heap.size = b68 at *
                      refine wpAnyT_ready (rs := [5, 9]) (by kernel_rfl) (by simp) ?_
                      refine AllReadyT.cons rfl (by decide) (fun K hK => ?_) ?_
                      · refine step_append_own rfl _ _ 45 rfl 51 (.agg #[.slice none 0 0, .int .i64 0]) 2 32 Try.underlying45 Try.infoIdR rfl (by decide) (.slice p9 i c9) i L9 (by simp [Act.eval, Act.put]) O9 ⟨b64, 0, none⟩ 1 1 [.slice (some ⟨b62, 0, none⟩) 1 1, .int .i64 0] (by simp [Act.eval, Act.put]) rfl (blk_news V64) (by simp [Value.oneCell']) (by simp only [maxLen]; omega) (by omega) ?_
                        intro g9 v9 u4 hrow hg9' hO
                        refine hK.out _ _ (HS.out _ (HB.then (hO.mono (fun _ _ h => .inl h)))) ?_
                        clear hK K
                        try simp only [Act.put, List.setIfInBounds_toArray, List.set_cons_zero, List.set_cons_succ]
                        have t4V62 := V62.lt
                        replace V62 := V62.only hO (fun h => by have := (HQ.out.x9 _ h).2; omega)
                        have t4V64 := V64.lt
                        replace V64 := V64.only hO (fun h => by have := (HQ.out.x9 _ h).2; omega)
                        have t4V68 := V68.lt
                        replace V68 := V68.only hO (fun h => by have := (HQ.out.x9 _ h).2; omega)
                        replace O10 := owns_only O10 hO (fun k h1 h2 => HQ.out.ne k h2 h1)
                        have hz := HB.size
                        have hg9 : ownB p9 i c9 g9 ∨ W.heap.size ≤ g9 := hg9'.imp id (fun h => by omega)
                        have hg9q : g9 < W.heap.size ∨ g9 = u3.heap.size := hg9'.imp (fun h => (HQ.out.x9 _ h).2) id
                        have n1 : b62 ≠ g9 := by omega
                        have n3 : b68 ≠ g9 := by omega
                        obtain ⟨q9, k9, rfl, -⟩ := Row.form hrow
                        have R9 := hrow
                        have r9 := (row_own R9 (by omega)).2.1
                        have z4 := hO.size
                        replace HB := HB.then (hO.mono (fun _ _ h => .inl h))
                        clear hO hrow hg9' O9 hz
                        refine wpAnyT_take (i := 11) (oi := _) (v := .pointer (some ⟨q, 40, none⟩)) rfl (by kernel_rfl) (fun _ _ _ h => h) (by rfl) (by intro wq hSw; obtain ⟨s40, s41⟩ := hSw; go_simp) (HS.out _ HB) ?_
                        try simp only [Act.put, List.setIfInBounds_toArray, List.set_cons_zero, List.set_cons_succ]
                        refine wpAnyT_ready (rs := [9]) (by kernel_rfl) (by simp) ?_
                        refine AllReadyT.cons rfl (by decide) (fun K hK => ?_) ?_
                        · go_simp
                          refine hK.out _ _ (HS.out _ (HB.then (Only.of_below ((Below.refl _ _).alloc (Nat.le_refl _) _)))) ?_
                          clear hK K
                          try simp only [Act.put, List.setIfInBounds_toArray, List.set_cons_zero, List.set_cons_succ]
                          refine wpAnyT_alloc ?_
                          intro u5 hb V69
                          replace V62 := V62.below hb
                          replace V64 := V64.below hb
                          replace V68 := V68.below hb
                          replace R9 := R9.only (Only.of_below (r := fun _ => False) hb) (fun h => h)
                          replace O10 := owns_only O10 (Only.of_below (r := fun _ => False) hb) (fun _ _ h => h)
                          have l69 : W.heap.size ≤ u4.heap.size := HB.size
                          have z5 := hb.size
                          have t5 := V69.lt
                          replace HB := HB.then (Only.of_below hb)
                          clear hb
                          generalize u4.heap.size = b69 at *
                          refine wpAnyT_ready (rs := [10]) (by kernel_rfl) (by simp) ?_
                          refine AllReadyT.cons rfl (by decide) (fun K hK => ?_) ?_
                          · refine step_append_own rfl _ _ 46 rfl 23 (.slice none 0 0) 1 24 Try.underlying46 Try.infoBsE rfl (by decide) (.slice p10 i c10) i L10 (by simp [Act.eval, Act.put]) O10 ⟨b69, 0, none⟩ 1 1 [.slice (some ⟨b68, 0, none⟩) 32 32] (by simp [Act.eval, Act.put]) rfl (blk_news V69) (by simp [Value.oneCell']) (by simp only [maxLen]; omega) (by omega) ?_
                            intro g10 v10 u6 hrow hg10' hO
                            refine hK.out _ _ (HS.out _ (HB.then (hO.mono (fun _ _ h => .inr h)))) ?_
                            clear hK K
                            try simp only [Act.put, List.setIfInBounds_toArray, List.set_cons_zero, List.set_cons_succ]
                            have t6V62 := V62.lt
                            replace V62 := V62.only hO (fun h => by have := (HQ.out.x10 _ h).2; omega)
                            have t6V64 := V64.lt
                            replace V64 := V64.only hO (fun h => by have := (HQ.out.x10 _ h).2; omega)
                            have t6V68 := V68.lt
                            replace V68 := V68.only hO (fun h => by have := (HQ.out.x10 _ h).2; omega)
                            have t6V69 := V69.lt
                            replace V69 := V69.only hO (fun h => by have := (HQ.out.x10 _ h).2; omega)
                            replace R9 := R9.only hO (fun h => hg9.elim (fun h1 => HQ.out.ne _ h1 h) (fun h1 => by have := (HQ.out.x10 _ h).2; omega))
                            have hz := HB.size
                            have hg10 : ownB p10 i c10 g10 ∨ W.heap.size ≤ g10 := hg10'.imp id (fun h => by omega)
                            have hg : g9 ≠ g10 := fun h => hg10'.elim (fun h1 => hg9.elim (fun h2 => HQ.out.ne _ h2 (by rw [h]; exact h1)) (fun h2 => by have := (HQ.out.x10 _ h1).2; omega)) (fun h1 => by omega)
                            have hg10q : g10 < W.heap.size ∨ g10 = u5.heap.size := hg10'.imp (fun h => (HQ.out.x10 _ h).2) id
                            have n2 : b62 ≠ g10 := by omega
                            have n4 : b68 ≠ g10 := by omega
                            obtain ⟨q10, k10, rfl, -⟩ := Row.form hrow
                            have R10 := hrow
                            replace HB := HB.then (hO.mono (fun _ _ h => .inr h))
                            clear hO hrow hg10' O10 hz
                            refine wpAnyT_tail (by kernel_rfl) ?_
                            have c40 := (HS.out _ HB).1
                            have c41 := (HS.out _ HB).2
                            have f40 := (HF.out _ HB).1
                            have f41 := (HF.out _ HB).2
                            have HZ := Lib.hid (HQ.out.step HB V62 V68 l62 l68 n1 n2 n3 n4 hg hg9 hg10 R9 R10)
                            clear hg9 hg10 HS HF HB R9 R10 V62 V64 V68 V69
                            go_wp2
                            go_roundw
                            case rel => refine ⟨_, _, _, _, _, _, _, _, _, _, _, _, _, _, _, _, _, _, _, ?_, rfl⟩; exact ⟨i + 1, _, _, _, _, _, _, by go_num, by have := HLT.out; omega, HZ.out⟩
                            case measure => have := HLT.out; simp [intOf]; omega
                          exact AllReadyT.nil
                        exact AllReadyT.nil
                      refine AllReadyT.cons rfl (by decide) (fun K hK => ?_) ?_
                      · go_simp
                        refine hK.out _ _ (HS.out _ (HB.then (Only.of_below ((Below.refl _ _).alloc (Nat.le_refl _) _)))) ?_
                        clear hK K
                        try simp only [Act.put, List.setIfInBounds_toArray, List.set_cons_zero, List.set_cons_succ]
                        refine wpAnyT_alloc ?_
                        intro u4 hb V69
                        replace V62 := V62.below hb
                        replace V64 := V64.below hb
                        replace V68 := V68.below hb
                        replace O9 := owns_only O9 (Only.of_below (r := fun _ => False) hb) (fun _ _ h => h)
                        replace O10 := owns_only O10 (Only.of_below (r := fun _ => False) hb) (fun _ _ h => h)
                        have l69 : W.heap.size ≤ u3.heap.size := HB.size
                        have z4 := hb.size
                        have t4 := V69.lt
                        replace HB := HB.then (Only.of_below hb)
                        clear hb
                        generalize u3.heap.size = b69 at *
                        refine wpAnyT_ready (rs := [5]) (by kernel_rfl) (by simp) ?_
                        refine AllReadyT.cons rfl (by decide) (fun K hK => ?_) ?_
                        · refine step_append_own rfl _ _ 45 rfl 51 (.agg #[.slice none 0 0, .int .i64 0]) 2 32 Try.underlying45 Try.infoIdR rfl (by decide) (.slice p9 i c9) i L9 (by simp [Act.eval, Act.put]) O9 ⟨b64, 0, none⟩ 1 1 [.slice (some ⟨b62, 0, none⟩) 1 1, .int .i64 0] (by simp [Act.eval, Act.put]) rfl (blk_news V64) (by simp [Value.oneCell']) (by simp only [maxLen]; omega) (by omega) ?_
                          intro g9 v9 u5 hrow hg9' hO
                          refine hK.out _ _ (HS.out _ (HB.then (hO.mono (fun _ _ h => .inl h)))) ?_
                          clear hK K
                          try simp only [Act.put, List.setIfInBounds_toArray, List.set_cons_zero, List.set_cons_succ]
                          have t5V62 := V62.lt
                          replace V62 := V62.only hO (fun h => by have := (HQ.out.x9 _ h).2; omega)
                          have t5V64 := V64.lt
                          replace V64 := V64.only hO (fun h => by have := (HQ.out.x9 _ h).2; omega)
                          have t5V68 := V68.lt
                          replace V68 := V68.only hO (fun h => by have := (HQ.out.x9 _ h).2; omega)
                          have t5V69 := V69.lt
                          replace V69 := V69.only hO (fun h => by have := (HQ.out.x9 _ h).2; omega)
                          replace O10 := owns_only O10 hO (fun k h1 h2 => HQ.out.ne k h2 h1)
                          have hz := HB.size
                          have hg9 : ownB p9 i c9 g9 ∨ W.heap.size ≤ g9 := hg9'.imp id (fun h => by omega)
                          have hg9q : g9 < W.heap.size ∨ g9 = u4.heap.size := hg9'.imp (fun h => (HQ.out.x9 _ h).2) id
                          have n1 : b62 ≠ g9 := by omega
                          have n3 : b68 ≠ g9 := by omega
                          obtain ⟨q9, k9, rfl, -⟩ := Row.form hrow
                          have R9 := hrow
                          have r9 := (row_own R9 (by omega)).2.1
                          have z5 := hO.size
                          replace HB := HB.then (hO.mono (fun _ _ h => .inl h))
                          clear hO hrow hg9' O9 hz
                          refine wpAnyT_take (i := 11) (oi := _) (v := .pointer (some ⟨q, 40, none⟩)) rfl (by kernel_rfl) (fun _ _ _ h => h) (by rfl) (by intro wq hSw; obtain ⟨s40, s41⟩ := hSw; go_simp) (HS.out _ HB) ?_
                          try simp only [Act.put, List.setIfInBounds_toArray, List.set_cons_zero, List.set_cons_succ]
                          refine wpAnyT_ready (rs := [10]) (by kernel_rfl) (by simp) ?_
                          refine AllReadyT.cons rfl (by decide) (fun K hK => ?_) ?_
                          · refine step_append_own rfl _ _ 46 rfl 23 (.slice none 0 0) 1 24 Try.underlying46 Try.infoBsE rfl (by decide) (.slice p10 i c10) i L10 (by simp [Act.eval, Act.put]) O10 ⟨b69, 0, none⟩ 1 1 [.slice (some ⟨b68, 0, none⟩) 32 32] (by simp [Act.eval, Act.put]) rfl (blk_news V69) (by simp [Value.oneCell']) (by simp only [maxLen]; omega) (by omega) ?_
                            intro g10 v10 u6 hrow hg10' hO
                            refine hK.out _ _ (HS.out _ (HB.then (hO.mono (fun _ _ h => .inr h)))) ?_
                            clear hK K
                            try simp only [Act.put, List.setIfInBounds_toArray, List.set_cons_zero, List.set_cons_succ]
                            have t6V62 := V62.lt
                            replace V62 := V62.only hO (fun h => by have := (HQ.out.x10 _ h).2; omega)
                            have t6V64 := V64.lt
                            replace V64 := V64.only hO (fun h => by have := (HQ.out.x10 _ h).2; omega)
                            have t6V68 := V68.lt
                            replace V68 := V68.only hO (fun h => by have := (HQ.out.x10 _ h).2; omega)
                            have t6V69 := V69.lt
                            replace V69 := V69.only hO (fun h => by have := (HQ.out.x10 _ h).2; omega)
                            replace R9 := R9.only hO (fun h => hg9.elim (fun h1 => HQ.out.ne _ h1 h) (fun h1 => by have := (HQ.out.x10 _ h).2; omega))
                            have hz := HB.size
                            have hg10 : ownB p10 i c10 g10 ∨ W.heap.size ≤ g10 := hg10'.imp id (fun h => by omega)
                            have hg : g9 ≠ g10 := fun h => hg10'.elim (fun h1 => hg9.elim (fun h2 => HQ.out.ne _ h2 (by rw [h]; exact h1)) (fun h2 => by have := (HQ.out.x10 _ h1).2; omega)) (fun h1 => by omega)
                            have hg10q : g10 < W.heap.size ∨ g10 = u5.heap.size := hg10'.imp (fun h => (HQ.out.x10 _ h).2) id
                            have n2 : b62 ≠ g10 := by omega
                            have n4 : b68 ≠ g10 := by omega
                            obtain ⟨q10, k10, rfl, -⟩ := Row.form hrow
                            have R10 := hrow
                            replace HB := HB.then (hO.mono (fun _ _ h => .inr h))
                            clear hO hrow hg10' O10 hz
                            refine wpAnyT_tail (by kernel_rfl) ?_
                            have c40 := (HS.out _ HB).1
                            have c41 := (HS.out _ HB).2
                            have f40 := (HF.out _ HB).1
                            have f41 := (HF.out _ HB).2
                            have HZ := Lib.hid (HQ.out.step HB V62 V68 l62 l68 n1 n2 n3 n4 hg hg9 hg10 R9 R10)
                            clear hg9 hg10 HS HF HB R9 R10 V62 V64 V68 V69
                            go_wp2
                            go_roundw
                            case rel => refine ⟨_, _, _, _, _, _, _, _, _, _, _, _, _, _, _, _, _, _, _, ?_, rfl⟩; exact ⟨i + 1, _, _, _, _, _, _, by go_num, by have := HLT.out; omega, HZ.out⟩
                            case measure => have := HLT.out; simp [intOf]; omega
                          exact AllReadyT.nil
                        exact AllReadyT.nil
                      exact AllReadyT.nil
                    exact AllReadyT.nil
                  refine AllReadyT.cons rfl (by decide) (fun K hK => ?_) ?_
                  · go_simp
                    refine hK.out _ _ (HS.out _ (HB.then (Only.of_below ((Below.refl _ _).alloc (Nat.le_refl _) _)))) ?_
                    clear hK K
                    try simp only [Act.put, List.setIfInBounds_toArray, List.set_cons_zero, List.set_cons_succ]
                    refine wpAnyT_alloc ?_
                    intro u2 hb V68
                    replace V62 := V62.below hb
                    replace O9 := owns_only O9 (Only.of_below (r := fun _ => False) hb) (fun _ _ h => h)
                    replace O10 := owns_only O10 (Only.of_below (r := fun _ => False) hb) (fun _ _ h => h)
                    have l68 : W.heap.size ≤ u1.heap.size := HB.size
                    have z2 := hb.size
                    have t2 := V68.lt
                    replace HB := HB.then (Only.of_below hb)
                    clear hb
                    generalize u1.heap.size = b68 at *
                    refine wpAnyT_ready (rs := [4, 9]) (by kernel_rfl) (by simp) ?_
                    refine AllReadyT.cons rfl (by decide) (fun K hK => ?_) ?_
                    · go_simp
                      refine hK.out _ _ (HS.out _ (HB.then (Only.of_below ((Below.refl _ _).alloc (Nat.le_refl _) _)))) ?_
                      clear hK K
                      try simp only [Act.put, List.setIfInBounds_toArray, List.set_cons_zero, List.set_cons_succ]
                      refine wpAnyT_alloc ?_
                      intro u3 hb V64
                      replace V62 := V62.below hb
                      replace V68 := V68.below hb
                      replace O9 := owns_only O9 (Only.of_below (r := fun _ => False) hb) (fun _ _ h => h)
                      replace O10 := owns_only O10 (Only.of_below (r := fun _ => False) hb) (fun _ _ h => h)
                      have l64 : W.heap.size ≤ u2.heap.size := HB.size
                      have z3 := hb.size
                      have t3 := V64.lt
                      replace HB := HB.then (Only.of_below hb)
                      clear hb
                      generalize u2.heap.size = b64 at *
                      refine wpAnyT_ready (rs := [5, 9]) (by kernel_rfl) (by simp) ?_
                      refine AllReadyT.cons rfl (by decide) (fun K hK => ?_) ?_
                      · refine step_append_own rfl _ _ 45 rfl 51 (.agg #[.slice none 0 0, .int .i64 0]) 2 32 Try.underlying45 Try.infoIdR rfl (by decide) (.slice p9 i c9) i L9 (by simp [Act.eval, Act.put]) O9 ⟨b64, 0, none⟩ 1 1 [.slice (some ⟨b62, 0, none⟩) 1 1, .int .i64 0] (by simp [Act.eval, Act.put]) rfl (blk_news V64) (by simp [Value.oneCell']) (by simp only [maxLen]; omega) (by omega) ?_
                        intro g9 v9 u4 hrow hg9' hO
                        refine hK.out _ _ (HS.out _ (HB.then (hO.mono (fun _ _ h => .inl h)))) ?_
                        clear hK K
                        try simp only [Act.put, List.setIfInBounds_toArray, List.set_cons_zero, List.set_cons_succ]
                        have t4V62 := V62.lt
                        replace V62 := V62.only hO (fun h => by have := (HQ.out.x9 _ h).2; omega)
                        have t4V64 := V64.lt
                        replace V64 := V64.only hO (fun h => by have := (HQ.out.x9 _ h).2; omega)
                        have t4V68 := V68.lt
                        replace V68 := V68.only hO (fun h => by have := (HQ.out.x9 _ h).2; omega)
                        replace O10 := owns_only O10 hO (fun k h1 h2 => HQ.out.ne k h2 h1)
                        have hz := HB.size
                        have hg9 : ownB p9 i c9 g9 ∨ W.heap.size ≤ g9 := hg9'.imp id (fun h => by omega)
                        have hg9q : g9 < W.heap.size ∨ g9 = u3.heap.size := hg9'.imp (fun h => (HQ.out.x9 _ h).2) id
                        have n1 : b62 ≠ g9 := by omega
                        have n3 : b68 ≠ g9 := by omega
                        obtain ⟨q9, k9, rfl, -⟩ := Row.form hrow
                        have R9 := hrow
                        have r9 := (row_own R9 (by omega)).2.1
                        have z4 := hO.size
                        replace HB := HB.then (hO.mono (fun _ _ h => .inl h))
                        clear hO hrow hg9' O9 hz
                        refine wpAnyT_take (i := 11) (oi := _) (v := .pointer (some ⟨q, 40, none⟩)) rfl (by kernel_rfl) (fun _ _ _ h => h) (by rfl) (by intro wq hSw; obtain ⟨s40, s41⟩ := hSw; go_simp) (HS.out _ HB) ?_
                        try simp only [Act.put, List.setIfInBounds_toArray, List.set_cons_zero, List.set_cons_succ]
                        refine wpAnyT_ready (rs := [9]) (by kernel_rfl) (by simp) ?_
                        refine AllReadyT.cons rfl (by decide) (fun K hK => ?_) ?_
                        · go_simp
                          refine hK.out _ _ (HS.out _ (HB.then (Only.of_below ((Below.refl _ _).alloc (Nat.le_refl _) _)))) ?_
                          clear hK K
                          try simp only [Act.put, List.setIfInBounds_toArray, List.set_cons_zero, List.set_cons_succ]
                          refine wpAnyT_alloc ?_
                          intro u5 hb V69
                          replace V62 := V62.below hb
                          replace V64 := V64.below hb
                          replace V68 := V68.below hb
                          replace R9 := R9.only (Only.of_below (r := fun _ => False) hb) (fun h => h)
                          replace O10 := owns_only O10 (Only.of_below (r := fun _ => False) hb) (fun _ _ h => h)
                          have l69 : W.heap.size ≤ u4.heap.size := HB.size
                          have z5 := hb.size
                          have t5 := V69.lt
                          replace HB := HB.then (Only.of_below hb)
                          clear hb
                          generalize u4.heap.size = b69 at *
                          refine wpAnyT_ready (rs := [10]) (by kernel_rfl) (by simp) ?_
                          refine AllReadyT.cons rfl (by decide) (fun K hK => ?_) ?_
                          · refine step_append_own rfl _ _ 46 rfl 23 (.slice none 0 0) 1 24 Try.underlying46 Try.infoBsE rfl (by decide) (.slice p10 i c10) i L10 (by simp [Act.eval, Act.put]) O10 ⟨b69, 0, none⟩ 1 1 [.slice (some ⟨b68, 0, none⟩) 32 32] (by simp [Act.eval, Act.put]) rfl (blk_news V69) (by simp [Value.oneCell']) (by simp only [maxLen]; omega) (by omega) ?_
                            intro g10 v10 u6 hrow hg10' hO
                            refine hK.out _ _ (HS.out _ (HB.then (hO.mono (fun _ _ h => .inr h)))) ?_
                            clear hK K
                            try simp only [Act.put, List.setIfInBounds_toArray, List.set_cons_zero, List.set_cons_succ]
                            have t6V62 := V62.lt
                            replace V62 := V62.only hO (fun h => by have := (HQ.out.x10 _ h).2; omega)
                            have t6V64 := V64.lt
                            replace V64 := V64.only hO (fun h => by have := (HQ.out.x10 _ h).2; omega)
                            have t6V68 := V68.lt
                            replace V68 := V68.only hO (fun h => by have := (HQ.out.x10 _ h).2; omega)
                            have t6V69 := V69.lt
                            replace V69 := V69.only hO (fun h => by have := (HQ.out.x10 _ h).2; omega)
                            replace R9 := R9.only hO (fun h => hg9.elim (fun h1 => HQ.out.ne _ h1 h) (fun h1 => by have := (HQ.out.x10 _ h).2; omega))
                            have hz := HB.size
                            have hg10 : ownB p10 i c10 g10 ∨ W.heap.size ≤ g10 := hg10'.imp id (fun h => by omega)
                            have hg : g9 ≠ g10 := fun h => hg10'.elim (fun h1 => hg9.elim (fun h2 => HQ.out.ne _ h2 (by rw [h]; exact h1)) (fun h2 => by have := (HQ.out.x10 _ h1).2; omega)) (fun h1 => by omega)
                            have hg10q : g10 < W.heap.size ∨ g10 = u5.heap.size := hg10'.imp (fun h => (HQ.out.x10 _ h).2) id
                            have n2 : b62 ≠ g10 := by omega
                            have n4 : b68 ≠ g10 := by omega
                            obtain ⟨q10, k10, rfl, -⟩ := Row.form hrow
                            have R10 := hrow
                            replace HB := HB.then (hO.mono (fun _ _ h => .inr h))
                            clear hO hrow hg10' O10 hz
                            refine wpAnyT_tail (by kernel_rfl) ?_
                            have c40 := (HS.out _ HB).1
                            have c41 := (HS.out _ HB).2
                            have f40 := (HF.out _ HB).1
                            have f41 := (HF.out _ HB).2
                            have HZ := Lib.hid (HQ.out.step HB V62 V68 l62 l68 n1 n2 n3 n4 hg hg9 hg10 R9 R10)
                            clear hg9 hg10 HS HF HB R9 R10 V62 V64 V68 V69
                            go_wp2
                            go_roundw
                            case rel => refine ⟨_, _, _, _, _, _, _, _, _, _, _, _, _, _, _, _, _, _, _, ?_, rfl⟩; exact ⟨i + 1, _, _, _, _, _, _, by go_num, by have := HLT.out; omega, HZ.out⟩
                            case measure => have := HLT.out; simp [intOf]; omega
                          exact AllReadyT.nil
                        exact AllReadyT.nil
                      refine AllReadyT.cons rfl (by decide) (fun K hK => ?_) ?_
                      · go_simp
                        refine hK.out _ _ (HS.out _ (HB.then (Only.of_below ((Below.refl _ _).alloc (Nat.le_refl _) _)))) ?_
                        clear hK K
                        try simp only [Act.put, List.setIfInBounds_toArray, List.set_cons_zero, List.set_cons_succ]
                        refine wpAnyT_alloc ?_
                        intro u4 hb V69
                        replace V62 := V62.below hb
                        replace V64 := V64.below hb
                        replace V68 := V68.below hb
                        replace O9 := owns_only O9 (Only.of_below (r := fun _ => False) hb) (fun _ _ h => h)
                        replace O10 := owns_only O10 (Only.of_below (r := fun _ => False) hb) (fun _ _ h => h)
                        have l69 : W.heap.size ≤ u3.heap.size := HB.size
                        have z4 := hb.size
                        have t4 := V69.lt
                        replace HB := HB.then (Only.of_below hb)
                        clear hb
                        generalize u3.heap.size = b69 at *
                        refine wpAnyT_ready (rs := [5]) (by kernel_rfl) (by simp) ?_
                        refine AllReadyT.cons rfl (by decide) (fun K hK => ?_) ?_
                        · refine step_append_own rfl _ _ 45 rfl 51 (.agg #[.slice none 0 0, .int .i64 0]) 2 32 Try.underlying45 Try.infoIdR rfl (by decide) (.slice p9 i c9) i L9 (by simp [Act.eval, Act.put]) O9 ⟨b64, 0, none⟩ 1 1 [.slice (some ⟨b62, 0, none⟩) 1 1, .int .i64 0] (by simp [Act.eval, Act.put]) rfl (blk_news V64) (by simp [Value.oneCell']) (by simp only [maxLen]; omega) (by omega) ?_
                          intro g9 v9 u5 hrow hg9' hO
                          refine hK.out _ _ (HS.out _ (HB.then (hO.mono (fun _ _ h => .inl h)))) ?_
                          clear hK K
                          try simp only [Act.put, List.setIfInBounds_toArray, List.set_cons_zero, List.set_cons_succ]
                          have t5V62 := V62.lt
                          replace V62 := V62.only hO (fun h => by have := (HQ.out.x9 _ h).2; omega)
                          have t5V64 := V64.lt
                          replace V64 := V64.only hO (fun h => by have := (HQ.out.x9 _ h).2; omega)
                          have t5V68 := V68.lt
                          replace V68 := V68.only hO (fun h => by have := (HQ.out.x9 _ h).2; omega)
                          have t5V69 := V69.lt
                          replace V69 := V69.only hO (fun h => by have := (HQ.out.x9 _ h).2; omega)
                          replace O10 := owns_only O10 hO (fun k h1 h2 => HQ.out.ne k h2 h1)
                          have hz := HB.size
                          have hg9 : ownB p9 i c9 g9 ∨ W.heap.size ≤ g9 := hg9'.imp id (fun h => by omega)
                          have hg9q : g9 < W.heap.size ∨ g9 = u4.heap.size := hg9'.imp (fun h => (HQ.out.x9 _ h).2) id
                          have n1 : b62 ≠ g9 := by omega
                          have n3 : b68 ≠ g9 := by omega
                          obtain ⟨q9, k9, rfl, -⟩ := Row.form hrow
                          have R9 := hrow
                          have r9 := (row_own R9 (by omega)).2.1
                          have z5 := hO.size
                          replace HB := HB.then (hO.mono (fun _ _ h => .inl h))
                          clear hO hrow hg9' O9 hz
                          refine wpAnyT_take (i := 11) (oi := _) (v := .pointer (some ⟨q, 40, none⟩)) rfl (by kernel_rfl) (fun _ _ _ h => h) (by rfl) (by intro wq hSw; obtain ⟨s40, s41⟩ := hSw; go_simp) (HS.out _ HB) ?_
                          try simp only [Act.put, List.setIfInBounds_toArray, List.set_cons_zero, List.set_cons_succ]
                          refine wpAnyT_ready (rs := [10]) (by kernel_rfl) (by simp) ?_
                          refine AllReadyT.cons rfl (by decide) (fun K hK => ?_) ?_
                          · refine step_append_own rfl _ _ 46 rfl 23 (.slice none 0 0) 1 24 Try.underlying46 Try.infoBsE rfl (by decide) (.slice p10 i c10) i L10 (by simp [Act.eval, Act.put]) O10 ⟨b69, 0, none⟩ 1 1 [.slice (some ⟨b68, 0, none⟩) 32 32] (by simp [Act.eval, Act.put]) rfl (blk_news V69) (by simp [Value.oneCell']) (by simp only [maxLen]; omega) (by omega) ?_
                            intro g10 v10 u6 hrow hg10' hO
                            refine hK.out _ _ (HS.out _ (HB.then (hO.mono (fun _ _ h => .inr h)))) ?_
                            clear hK K
                            try simp only [Act.put, List.setIfInBounds_toArray, List.set_cons_zero, List.set_cons_succ]
                            have t6V62 := V62.lt
                            replace V62 := V62.only hO (fun h => by have := (HQ.out.x10 _ h).2; omega)
                            have t6V64 := V64.lt
                            replace V64 := V64.only hO (fun h => by have := (HQ.out.x10 _ h).2; omega)
                            have t6V68 := V68.lt
                            replace V68 := V68.only hO (fun h => by have := (HQ.out.x10 _ h).2; omega)
                            have t6V69 := V69.lt
                            replace V69 := V69.only hO (fun h => by have := (HQ.out.x10 _ h).2; omega)
                            replace R9 := R9.only hO (fun h => hg9.elim (fun h1 => HQ.out.ne _ h1 h) (fun h1 => by have := (HQ.out.x10 _ h).2; omega))
                            have hz := HB.size
                            have hg10 : ownB p10 i c10 g10 ∨ W.heap.size ≤ g10 := hg10'.imp id (fun h => by omega)
                            have hg : g9 ≠ g10 := fun h => hg10'.elim (fun h1 => hg9.elim (fun h2 => HQ.out.ne _ h2 (by rw [h]; exact h1)) (fun h2 => by have := (HQ.out.x10 _ h1).2; omega)) (fun h1 => by omega)
                            have hg10q : g10 < W.heap.size ∨ g10 = u5.heap.size := hg10'.imp (fun h => (HQ.out.x10 _ h).2) id
                            have n2 : b62 ≠ g10 := by omega
                            have n4 : b68 ≠ g10 := by omega
                            obtain ⟨q10, k10, rfl, -⟩ := Row.form hrow
                            have R10 := hrow
                            replace HB := HB.then (hO.mono (fun _ _ h => .inr h))
                            clear hO hrow hg10' O10 hz
                            refine wpAnyT_tail (by kernel_rfl) ?_
                            have c40 := (HS.out _ HB).1
                            have c41 := (HS.out _ HB).2
                            have f40 := (HF.out _ HB).1
                            have f41 := (HF.out _ HB).2
                            have HZ := Lib.hid (HQ.out.step HB V62 V68 l62 l68 n1 n2 n3 n4 hg hg9 hg10 R9 R10)
                            clear hg9 hg10 HS HF HB R9 R10 V62 V64 V68 V69
                            go_wp2
                            go_roundw
                            case rel => refine ⟨_, _, _, _, _, _, _, _, _, _, _, _, _, _, _, _, _, _, _, ?_, rfl⟩; exact ⟨i + 1, _, _, _, _, _, _, by go_num, by have := HLT.out; omega, HZ.out⟩
                            case measure => have := HLT.out; simp [intOf]; omega
                          exact AllReadyT.nil
                        exact AllReadyT.nil
                      exact AllReadyT.nil
                    refine AllReadyT.cons rfl (by decide) (fun K hK => ?_) ?_
                    · go_simp
                      refine hK.out _ _ (HS.out _ (HB.then (Only.of_below ((Below.refl _ _).alloc (Nat.le_refl _) _)))) ?_
                      clear hK K
                      try simp only [Act.put, List.setIfInBounds_toArray, List.set_cons_zero, List.set_cons_succ]
                      refine wpAnyT_alloc ?_
                      intro u3 hb V69
                      replace V62 := V62.below hb
                      replace V68 := V68.below hb
                      replace O9 := owns_only O9 (Only.of_below (r := fun _ => False) hb) (fun _ _ h => h)
                      replace O10 := owns_only O10 (Only.of_below (r := fun _ => False) hb) (fun _ _ h => h)
                      have l69 : W.heap.size ≤ u2.heap.size := HB.size
                      have z3 := hb.size
                      have t3 := V69.lt
                      replace HB := HB.then (Only.of_below hb)
                      clear hb
                      generalize u2.heap.size = b69 at *
                      refine wpAnyT_ready (rs := [4]) (by kernel_rfl) (by simp) ?_
                      refine AllReadyT.cons rfl (by decide) (fun K hK => ?_) ?_
                      · go_simp
                        refine hK.out _ _ (HS.out _ (HB.then (Only.of_below ((Below.refl _ _).alloc (Nat.le_refl _) _)))) ?_
                        clear hK K
                        try simp only [Act.put, List.setIfInBounds_toArray, List.set_cons_zero, List.set_cons_succ]
                        refine wpAnyT_alloc ?_
                        intro u4 hb V64
                        replace V62 := V62.below hb
                        replace V68 := V68.below hb
                        replace V69 := V69.below hb
                        replace O9 := owns_only O9 (Only.of_below (r := fun _ => False) hb) (fun _ _ h => h)
                        replace O10 := owns_only O10 (Only.of_below (r := fun _ => False) hb) (fun _ _ h => h)
                        have l64 : W.heap.size ≤ u3.heap.size := HB.size
                        have z4 := hb.size
                        have t4 := V64.lt
                        replace HB := HB.then (Only.of_below hb)
                        clear hb
                        generalize u3.heap.size = b64 at *
                        refine wpAnyT_ready (rs := [5]) (by kernel_rfl) (by simp) ?_
                        refine AllReadyT.cons rfl (by decide) (fun K hK => ?_) ?_
                        · refine step_append_own rfl _ _ 45 rfl 51 (.agg #[.slice none 0 0, .int .i64 0]) 2 32 Try.underlying45 Try.infoIdR rfl (by decide) (.slice p9 i c9) i L9 (by simp [Act.eval, Act.put]) O9 ⟨b64, 0, none⟩ 1 1 [.slice (some ⟨b62, 0, none⟩) 1 1, .int .i64 0] (by simp [Act.eval, Act.put]) rfl (blk_news V64) (by simp [Value.oneCell']) (by simp only [maxLen]; omega) (by omega) ?_
                          intro g9 v9 u5 hrow hg9' hO
                          refine hK.out _ _ (HS.out _ (HB.then (hO.mono (fun _ _ h => .inl h)))) ?_
                          clear hK K
                          try simp only [Act.put, List.setIfInBounds_toArray, List.set_cons_zero, List.set_cons_succ]
                          have t5V62 := V62.lt
                          replace V62 := V62.only hO (fun h => by have := (HQ.out.x9 _ h).2; omega)
                          have t5V64 := V64.lt
                          replace V64 := V64.only hO (fun h => by have := (HQ.out.x9 _ h).2; omega)
                          have t5V68 := V68.lt
                          replace V68 := V68.only hO (fun h => by have := (HQ.out.x9 _ h).2; omega)
                          have t5V69 := V69.lt
                          replace V69 := V69.only hO (fun h => by have := (HQ.out.x9 _ h).2; omega)
                          replace O10 := owns_only O10 hO (fun k h1 h2 => HQ.out.ne k h2 h1)
                          have hz := HB.size
                          have hg9 : ownB p9 i c9 g9 ∨ W.heap.size ≤ g9 := hg9'.imp id (fun h => by omega)
                          have hg9q : g9 < W.heap.size ∨ g9 = u4.heap.size := hg9'.imp (fun h => (HQ.out.x9 _ h).2) id
                          have n1 : b62 ≠ g9 := by omega
                          have n3 : b68 ≠ g9 := by omega
                          obtain ⟨q9, k9, rfl, -⟩ := Row.form hrow
                          have R9 := hrow
                          have r9 := (row_own R9 (by omega)).2.1
                          have z5 := hO.size
                          replace HB := HB.then (hO.mono (fun _ _ h => .inl h))
                          clear hO hrow hg9' O9 hz
                          refine wpAnyT_take (i := 11) (oi := _) (v := .pointer (some ⟨q, 40, none⟩)) rfl (by kernel_rfl) (fun _ _ _ h => h) (by rfl) (by intro wq hSw; obtain ⟨s40, s41⟩ := hSw; go_simp) (HS.out _ HB) ?_
                          try simp only [Act.put, List.setIfInBounds_toArray, List.set_cons_zero, List.set_cons_succ]
                          refine wpAnyT_ready (rs := [10]) (by kernel_rfl) (by simp) ?_
                          refine AllReadyT.cons rfl (by decide) (fun K hK => ?_) ?_
                          · refine step_append_own rfl _ _ 46 rfl 23 (.slice none 0 0) 1 24 Try.underlying46 Try.infoBsE rfl (by decide) (.slice p10 i c10) i L10 (by simp [Act.eval, Act.put]) O10 ⟨b69, 0, none⟩ 1 1 [.slice (some ⟨b68, 0, none⟩) 32 32] (by simp [Act.eval, Act.put]) rfl (blk_news V69) (by simp [Value.oneCell']) (by simp only [maxLen]; omega) (by omega) ?_
                            intro g10 v10 u6 hrow hg10' hO
                            refine hK.out _ _ (HS.out _ (HB.then (hO.mono (fun _ _ h => .inr h)))) ?_
                            clear hK K
                            try simp only [Act.put, List.setIfInBounds_toArray, List.set_cons_zero, List.set_cons_succ]
                            have t6V62 := V62.lt
                            replace V62 := V62.only hO (fun h => by have := (HQ.out.x10 _ h).2; omega)
                            have t6V64 := V64.lt
                            replace V64 := V64.only hO (fun h => by have := (HQ.out.x10 _ h).2; omega)
                            have t6V68 := V68.lt
                            replace V68 := V68.only hO (fun h => by have := (HQ.out.x10 _ h).2; omega)
                            have t6V69 := V69.lt
                            replace V69 := V69.only hO (fun h => by have := (HQ.out.x10 _ h).2; omega)
                            replace R9 := R9.only hO (fun h => hg9.elim (fun h1 => HQ.out.ne _ h1 h) (fun h1 => by have := (HQ.out.x10 _ h).2; omega))
                            have hz := HB.size
                            have hg10 : ownB p10 i c10 g10 ∨ W.heap.size ≤ g10 := hg10'.imp id (fun h => by omega)
                            have hg : g9 ≠ g10 := fun h => hg10'.elim (fun h1 => hg9.elim (fun h2 => HQ.out.ne _ h2 (by rw [h]; exact h1)) (fun h2 => by have := (HQ.out.x10 _ h1).2; omega)) (fun h1 => by omega)
                            have hg10q : g10 < W.heap.size ∨ g10 = u5.heap.size := hg10'.imp (fun h => (HQ.out.x10 _ h).2) id
                            have n2 : b62 ≠ g10 := by omega
                            have n4 : b68 ≠ g10 := by omega
                            obtain ⟨q10, k10, rfl, -⟩ := Row.form hrow
                            have R10 := hrow
                            replace HB := HB.then (hO.mono (fun _ _ h => .inr h))
                            clear hO hrow hg10' O10 hz
                            refine wpAnyT_tail (by kernel_rfl) ?_
                            have c40 := (HS.out _ HB).1
                            have c41 := (HS.out _ HB).2
                            have f40 := (HF.out _ HB).1
                            have f41 := (HF.out _ HB).2
                            have HZ := Lib.hid (HQ.out.step HB V62 V68 l62 l68 n1 n2 n3 n4 hg hg9 hg10 R9 R10)
                            clear hg9 hg10 HS HF HB R9 R10 V62 V64 V68 V69
                            go_wp2
                            go_roundw
                            case rel => refine ⟨_, _, _, _, _, _, _, _, _, _, _, _, _, _, _, _, _, _, _, ?_, rfl⟩; exact ⟨i + 1, _, _, _, _, _, _, by go_num, by have := HLT.out; omega, HZ.out⟩
                            case measure => have := HLT.out; simp [intOf]; omega
                          exact AllReadyT.nil
                        exact AllReadyT.nil
                      exact AllReadyT.nil
                    exact AllReadyT.nil
                  exact AllReadyT.nil
                refine AllReadyT.cons rfl (by decide) (fun K hK => ?_) ?_
                · go_simp
                  refine hK.out _ _ (HS.out _ (HB.then (Only.of_below ((Below.refl _ _).alloc (Nat.le_refl _) _)))) ?_
                  clear hK K
                  try simp only [Act.put, List.setIfInBounds_toArray, List.set_cons_zero, List.set_cons_succ]
                  refine wpAnyT_alloc ?_
                  intro u1 hb V68
                  replace O9 := owns_only O9 (Only.of_below (r := fun _ => False) hb) (fun _ _ h => h)
                  replace O10 := owns_only O10 (Only.of_below (r := fun _ => False) hb) (fun _ _ h => h)
                  have l68 : W.heap.size ≤ u0.heap.size := HB.size
                  have z1 := hb.size
                  have t1 := V68.lt
                  replace HB := HB.then (Only.of_below hb)
                  clear hb
                  generalize u0.heap.size = b68 at *
                  refine wpAnyT_ready (rs := [2, 9]) (by kernel_rfl) (by simp) ?_
                  refine AllReadyT.cons rfl (by decide) (fun K hK => ?_) ?_
                  · go_simp
                    refine hK.out _ _ (HS.out _ (HB.then (Only.of_below ((Below.refl _ _).alloc (Nat.le_refl _) _)))) ?_
                    clear hK K
                    try simp only [Act.put, List.setIfInBounds_toArray, List.set_cons_zero, List.set_cons_succ]
                    refine wpAnyT_alloc ?_
                    intro u2 hb V62
                    replace V68 := V68.below hb
                    replace O9 := owns_only O9 (Only.of_below (r := fun _ => False) hb) (fun _ _ h => h)
                    replace O10 := owns_only O10 (Only.of_below (r := fun _ => False) hb) (fun _ _ h => h)
                    have l62 : W.heap.size ≤ u1.heap.size := HB.size
                    have z2 := hb.size
                    have t2 := V62.lt
                    replace HB := HB.then (Only.of_below hb)
                    clear hb
                    generalize u1.heap.size = b62 at *
                    refine wpAnyT_take (i := 3) (oi := _) (v := .agg #[.slice (some ⟨b62, 0, none⟩) 1 1, .int .i64 0]) rfl (by kernel_rfl) (fun _ _ _ h => h) (by rfl) (by intro wq hSw; obtain ⟨s40, s41⟩ := hSw; go_simp) (HS.out _ HB) ?_
                    try simp only [Act.put, List.setIfInBounds_toArray, List.set_cons_zero, List.set_cons_succ]
                    refine wpAnyT_ready (rs := [4, 9]) (by kernel_rfl) (by simp) ?_
                    refine AllReadyT.cons rfl (by decide) (fun K hK => ?_) ?_
                    · go_simp
                      refine hK.out _ _ (HS.out _ (HB.then (Only.of_below ((Below.refl _ _).alloc (Nat.le_refl _) _)))) ?_
                      clear hK K
                      try simp only [Act.put, List.setIfInBounds_toArray, List.set_cons_zero, List.set_cons_succ]
                      refine wpAnyT_alloc ?_
                      intro u3 hb V64
                      replace V62 := V62.below hb
                      replace V68 := V68.below hb
                      replace O9 := owns_only O9 (Only.of_below (r := fun _ => False) hb) (fun _ _ h => h)
                      replace O10 := owns_only O10 (Only.of_below (r := fun _ => False) hb) (fun _ _ h => h)
                      have l64 : W.heap.size ≤ u2.heap.size := HB.size
                      have z3 := hb.size
                      have t3 := V64.lt
                      replace HB := HB.then (Only.of_below hb)
                      clear hb
                      generalize u2.heap.size = b64 at *
                      refine wpAnyT_ready (rs := [5, 9]) (by kernel_rfl) (by simp) ?_
                      refine AllReadyT.cons rfl (by decide) (fun K hK => ?_) ?_
                      · refine step_append_own rfl _ _ 45 rfl 51 (.agg #[.slice none 0 0, .int .i64 0]) 2 32 Try.underlying45 Try.infoIdR rfl (by decide) (.slice p9 i c9) i L9 (by simp [Act.eval, Act.put]) O9 ⟨b64, 0, none⟩ 1 1 [.slice (some ⟨b62, 0, none⟩) 1 1, .int .i64 0] (by simp [Act.eval, Act.put]) rfl (blk_news V64) (by simp [Value.oneCell']) (by simp only [maxLen]; omega) (by omega) ?_
                        intro g9 v9 u4 hrow hg9' hO
                        refine hK.out _ _ (HS.out _ (HB.then (hO.mono (fun _ _ h => .inl h)))) ?_
                        clear hK K
                        try simp only [Act.put, List.setIfInBounds_toArray, List.set_cons_zero, List.set_cons_succ]
                        have t4V62 := V62.lt
                        replace V62 := V62.only hO (fun h => by have := (HQ.out.x9 _ h).2; omega)
                        have t4V64 := V64.lt
                        replace V64 := V64.only hO (fun h => by have := (HQ.out.x9 _ h).2; omega)
                        have t4V68 := V68.lt
                        replace V68 := V68.only hO (fun h => by have := (HQ.out.x9 _ h).2; omega)
                        replace O10 := owns_only O10 hO (fun k h1 h2 => HQ.out.ne k h2 h1)
                        have hz := HB.size
                        have hg9 : ownB p9 i c9 g9 ∨ W.heap.size ≤ g9 := hg9'.imp id (fun h => by omega)
                        have hg9q : g9 < W.heap.size ∨ g9 = u3.heap.size := hg9'.imp (fun h => (HQ.out.x9 _ h).2) id
                        have n1 : b62 ≠ g9 := by omega
                        have n3 : b68 ≠ g9 := by omega
                        obtain ⟨q9, k9, rfl, -⟩ := Row.form hrow
                        have R9 := hrow
                        have r9 := (row_own R9 (by omega)).2.1
                        have z4 := hO.size
                        replace HB := HB.then (hO.mono (fun _ _ h => .inl h))
                        clear hO hrow hg9' O9 hz
                        refine wpAnyT_take (i := 11) (oi := _) (v := .pointer (some ⟨q, 40, none⟩)) rfl (by kernel_rfl) (fun _ _ _ h => h) (by rfl) (by intro wq hSw; obtain ⟨s40, s41⟩ := hSw; go_simp) (HS.out _ HB) ?_
                        try simp only [Act.put, List.setIfInBounds_toArray, List.set_cons_zero, List.set_cons_succ]
                        refine wpAnyT_ready (rs := [9]) (by kernel_rfl) (by simp) ?_
                        refine AllReadyT.cons rfl (by decide) (fun K hK => ?_) ?_
                        · go_simp
                          refine hK.out _ _ (HS.out _ (HB.then (Only.of_below ((Below.refl _ _).alloc (Nat.le_refl _) _)))) ?_
                          clear hK K
                          try simp only [Act.put, List.setIfInBounds_toArray, List.set_cons_zero, List.set_cons_succ]
                          refine wpAnyT_alloc ?_
                          intro u5 hb V69
                          replace V62 := V62.below hb
                          replace V64 := V64.below hb
                          replace V68 := V68.below hb
                          replace R9 := R9.only (Only.of_below (r := fun _ => False) hb) (fun h => h)
                          replace O10 := owns_only O10 (Only.of_below (r := fun _ => False) hb) (fun _ _ h => h)
                          have l69 : W.heap.size ≤ u4.heap.size := HB.size
                          have z5 := hb.size
                          have t5 := V69.lt
                          replace HB := HB.then (Only.of_below hb)
                          clear hb
                          generalize u4.heap.size = b69 at *
                          refine wpAnyT_ready (rs := [10]) (by kernel_rfl) (by simp) ?_
                          refine AllReadyT.cons rfl (by decide) (fun K hK => ?_) ?_
                          · refine step_append_own rfl _ _ 46 rfl 23 (.slice none 0 0) 1 24 Try.underlying46 Try.infoBsE rfl (by decide) (.slice p10 i c10) i L10 (by simp [Act.eval, Act.put]) O10 ⟨b69, 0, none⟩ 1 1 [.slice (some ⟨b68, 0, none⟩) 32 32] (by simp [Act.eval, Act.put]) rfl (blk_news V69) (by simp [Value.oneCell']) (by simp only [maxLen]; omega) (by omega) ?_
                            intro g10 v10 u6 hrow hg10' hO
                            refine hK.out _ _ (HS.out _ (HB.then (hO.mono (fun _ _ h => .inr h)))) ?_
                            clear hK K
                            try simp only [Act.put, List.setIfInBounds_toArray, List.set_cons_zero, List.set_cons_succ]
                            have t6V62 := V62.lt
                            replace V62 := V62.only hO (fun h => by have := (HQ.out.x10 _ h).2; omega)
                            have t6V64 := V64.lt
                            replace V64 := V64.only hO (fun h => by have := (HQ.out.x10 _ h).2; omega)
                            have t6V68 := V68.lt
                            replace V68 := V68.only hO (fun h => by have := (HQ.out.x10 _ h).2; omega)
                            have t6V69 := V69.lt
                            replace V69 := V69.only hO (fun h => by have := (HQ.out.x10 _ h).2; omega)
                            replace R9 := R9.only hO (fun h => hg9.elim (fun h1 => HQ.out.ne _ h1 h) (fun h1 => by have := (HQ.out.x10 _ h).2; omega))
                            have hz := HB.size
                            have hg10 : ownB p10 i c10 g10 ∨ W.heap.size ≤ g10 := hg10'.imp id (fun h => by omega)
                            have hg : g9 ≠ g10 := fun h => hg10'.elim (fun h1 => hg9.elim (fun h2 => HQ.out.ne _ h2 (by rw [h]; exact h1)) (fun h2 => by have := (HQ.out.x10 _ h1).2; omega)) (fun h1 => by omega)
                            have hg10q : g10 < W.heap.size ∨ g10 = u5.heap.size := hg10'.imp (fun h => (HQ.out.x10 _ h).2) id
                            have n2 : b62 ≠ g10 := by omega
                            have n4 : b68 ≠ g10 := by omega
                            obtain ⟨q10, k10, rfl, -⟩ := Row.form hrow
                            have R10 := hrow
                            replace HB := HB.then (hO.mono (fun _ _ h => .inr h))
                            clear hO hrow hg10' O10 hz
                            refine wpAnyT_tail (by kernel_rfl) ?_
                            have c40 := (HS.out _ HB).1
                            have c41 := (HS.out _ HB).2
                            have f40 := (HF.out _ HB).1
                            have f41 := (HF.out _ HB).2
                            have HZ := Lib.hid (HQ.out.step HB V62 V68 l62 l68 n1 n2 n3 n4 hg hg9 hg10 R9 R10)
                            clear hg9 hg10 HS HF HB R9 R10 V62 V64 V68 V69
                            go_wp2
                            go_roundw
                            case rel => refine ⟨_, _, _, _, _, _, _, _, _, _, _, _, _, _, _, _, _, _, _, ?_, rfl⟩; exact ⟨i + 1, _, _, _, _, _, _, by go_num, by have := HLT.out; omega, HZ.out⟩
                            case measure => have := HLT.out; simp [intOf]; omega
                          exact AllReadyT.nil
                        exact AllReadyT.nil
                      refine AllReadyT.cons rfl (by decide) (fun K hK => ?_) ?_
                      · go_simp
                        refine hK.out _ _ (HS.out _ (HB.then (Only.of_below ((Below.refl _ _).alloc (Nat.le_refl _) _)))) ?_
                        clear hK K
                        try simp only [Act.put, List.setIfInBounds_toArray, List.set_cons_zero, List.set_cons_succ]
                        refine wpAnyT_alloc ?_
                        intro u4 hb V69
                        replace V62 := V62.below hb
                        replace V64 := V64.below hb
                        replace V68 := V68.below hb
                        replace O9 := owns_only O9 (Only.of_below (r := fun _ => False) hb) (fun _ _ h => h)
                        replace O10 := owns_only O10 (Only.of_below (r := fun _ => False) hb) (fun _ _ h => h)
                        have l69 : W.heap.size ≤ u3.heap.size := HB.size
                        have z4 := hb.size
                        have t4 := V69.lt
                        replace HB := HB.then (Only.of_below hb)
                        clear hb
                        generalize u3.heap.size = b69 at *
                        refine wpAnyT_ready (rs := [5]) (by kernel_rfl) (by simp) ?_
                        refine AllReadyT.cons rfl (by decide) (fun K hK => ?_) ?_
                        · refine step_append_own rfl _ _ 45 rfl 51 (.agg #[.slice none 0 0, .int .i64 0]) 2 32 Try.underlying45 Try.infoIdR rfl (by decide) (.slice p9 i c9) i L9 (by simp [Act.eval, Act.put]) O9 ⟨b64, 0, none⟩ 1 1 [.slice (some ⟨b62, 0, none⟩) 1 1, .int .i64 0] (by simp [Act.eval, Act.put]) rfl (blk_news V64) (by simp [Value.oneCell']) (by simp only [maxLen]; omega) (by omega) ?_
                          intro g9 v9 u5 hrow hg9' hO
                          refine hK.out _ _ (HS.out _ (HB.then (hO.mono (fun _ _ h => .inl h)))) ?_
                          clear hK K
                          try simp only [Act.put, List.setIfInBounds_toArray, List.set_cons_zero, List.set_cons_succ]
                          have t5V62 := V62.lt
                          replace V62 := V62.only hO (fun h => by have := (HQ.out.x9 _ h).2; omega)
                          have t5V64 := V64.lt
                          replace V64 := V64.only hO (fun h => by have := (HQ.out.x9 _ h).2; omega)
                          have t5V68 := V68.lt
                          replace V68 := V68.only hO (fun h => by have := (HQ.out.x9 _ h).2; omega)
                          have t5V69 := V69.lt
                          replace V69 := V69.only hO (fun h => by have := (HQ.out.x9 _ h).2; omega)
                          replace O10 := owns_only O10 hO (fun k h1 h2 => HQ.out.ne k h2 h1)
                          have hz := HB.size
                          have hg9 : ownB p9 i c9 g9 ∨ W.heap.size ≤ g9 := hg9'.imp id (fun h => by omega)
                          have hg9q : g9 < W.heap.size ∨ g9 = u4.heap.size := hg9'.imp (fun h => (HQ.out.x9 _ h).2) id
                          have n1 : b62 ≠ g9 := by omega
                          have n3 : b68 ≠ g9 := by omega
                          obtain ⟨q9, k9, rfl, -⟩ := Row.form hrow
                          have R9 := hrow
                          have r9 := (row_own R9 (by omega)).2.1
                          have z5 := hO.size
                          replace HB := HB.then (hO.mono (fun _ _ h => .inl h))
                          clear hO hrow hg9' O9 hz
                          refine wpAnyT_take (i := 11) (oi := _) (v := .pointer (some ⟨q, 40, none⟩)) rfl (by kernel_rfl) (fun _ _ _ h => h) (by rfl) (by intro wq hSw; obtain ⟨s40, s41⟩ := hSw; go_simp) (HS.out _ HB) ?_
                          try simp only [Act.put, List.setIfInBounds_toArray, List.set_cons_zero, List.set_cons_succ]
                          refine wpAnyT_ready (rs := [10]) (by kernel_rfl) (by simp) ?_
                          refine AllReadyT.cons rfl (by decide) (fun K hK => ?_) ?_
                          · refine step_append_own rfl _ _ 46 rfl 23 (.slice none 0 0) 1 24 Try.underlying46 Try.infoBsE rfl (by decide) (.slice p10 i c10) i L10 (by simp [Act.eval, Act.put]) O10 ⟨b69, 0, none⟩ 1 1 [.slice (some ⟨b68, 0, none⟩) 32 32] (by simp [Act.eval, Act.put]) rfl (blk_news V69) (by simp [Value.oneCell']) (by simp only [maxLen]; omega) (by omega) ?_
                            intro g10 v10 u6 hrow hg10' hO
                            refine hK.out _ _ (HS.out _ (HB.then (hO.mono (fun _ _ h => .inr h)))) ?_
                            clear hK K
                            try simp only [Act.put, List.setIfInBounds_toArray, List.set_cons_zero, List.set_cons_succ]
                            have t6V62 := V62.lt
                            replace V62 := V62.only hO (fun h => by have := (HQ.out.x10 _ h).2; omega)
                            have t6V64 := V64.lt
                            replace V64 := V64.only hO (fun h => by have := (HQ.out.x10 _ h).2; omega)
                            have t6V68 := V68.lt
                            replace V68 := V68.only hO (fun h => by have := (HQ.out.x10 _ h).2; omega)
                            have t6V69 := V69.lt
                            replace V69 := V69.only hO (fun h => by have := (HQ.out.x10 _ h).2; omega)
                            replace R9 := R9.only hO (fun h => hg9.elim (fun h1 => HQ.out.ne _ h1 h) (fun h1 => by have := (HQ.out.x10 _ h).2; omega))
                            have hz := HB.size
                            have hg10 : ownB p10 i c10 g10 ∨ W.heap.size ≤ g10 := hg10'.imp id (fun h => by omega)
                            have hg : g9 ≠ g10 := fun h => hg10'.elim (fun h1 => hg9.elim (fun h2 => HQ.out.ne _ h2 (by rw [h]; exact h1)) (fun h2 => by have := (HQ.out.x10 _ h1).2; omega)) (fun h1 => by omega)
                            have hg10q : g10 < W.heap.size ∨ g10 = u5.heap.size := hg10'.imp (fun h => (HQ.out.x10 _ h).2) id
                            have n2 : b62 ≠ g10 := by omega
                            have n4 : b68 ≠ g10 := by omega
                            obtain ⟨q10, k10, rfl, -⟩ := Row.form hrow
                            have R10 := hrow
                            replace HB := HB.then (hO.mono (fun _ _ h => .inr h))
                            clear hO hrow hg10' O10 hz
                            refine wpAnyT_tail (by kernel_rfl) ?_
                            have c40 := (HS.out _ HB).1
                            have c41 := (HS.out _ HB).2
                            have f40 := (HF.out _ HB).1
                            have f41 := (HF.out _ HB).2
                            have HZ := Lib.hid (HQ.out.step HB V62 V68 l62 l68 n1 n2 n3 n4 hg hg9 hg10 R9 R10)
                            clear hg9 hg10 HS HF HB R9 R10 V62 V64 V68 V69
                            go_wp2
                            go_roundw
                            case rel => refine ⟨_, _, _, _, _, _, _, _, _, _, _, _, _, _, _, _, _, _, _, ?_, rfl⟩; exact ⟨i + 1, _, _, _, _, _, _, by go_num, by have := HLT.out; omega, HZ.out⟩
                            case measure => have := HLT.out; simp [intOf]; omega
                          exact AllReadyT.nil
                        exact AllReadyT.nil
                      exact AllReadyT.nil
                    refine AllReadyT.cons rfl (by decide) (fun K hK => ?_) ?_
                    · go_simp
                      refine hK.out _ _ (HS.out _ (HB.then (Only.of_below ((Below.refl _ _).alloc (Nat.le_refl _) _)))) ?_
                      clear hK K
                      try simp only [Act.put, List.setIfInBounds_toArray, List.set_cons_zero, List.set_cons_succ]
                      refine wpAnyT_alloc ?_
                      intro u3 hb V69
                      replace V62 := V62.below hb
                      replace V68 := V68.below hb
                      replace O9 := owns_only O9 (Only.of_below (r := fun _ => False) hb) (fun _ _ h => h)
                      replace O10 := owns_only O10 (Only.of_below (r := fun _ => False) hb) (fun _ _ h => h)
                      have l69 : W.heap.size ≤ u2.heap.size := HB.size
                      have z3 := hb.size
                      have t3 := V69.lt
                      replace HB := HB.then (Only.of_below hb)
                      clear hb
                      generalize u2.heap.size = b69 at *
                      refine wpAnyT_ready (rs := [4]) (by kernel_rfl) (by simp) ?_
                      refine AllReadyT.cons rfl (by decide) (fun K hK => ?_) ?_
                      · go_simp
                        refine hK.out _ _ (HS.out _ (HB.then (Only.of_below ((Below.refl _ _).alloc (Nat.le_refl _) _)))) ?_
                        clear hK K
                        try simp only [Act.put, List.setIfInBounds_toArray, List.set_cons_zero, List.set_cons_succ]
                        refine wpAnyT_alloc ?_
                        intro u4 hb V64
                        replace V62 := V62.below hb
                        replace V68 := V68.below hb
                        replace V69 := V69.below hb
                        replace O9 := owns_only O9 (Only.of_below (r := fun _ => False) hb) (fun _ _ h => h)
                        replace O10 := owns_only O10 (Only.of_below (r := fun _ => False) hb) (fun _ _ h => h)
                        have l64 : W.heap.size ≤ u3.heap.size := HB.size
                        have z4 := hb.size
                        have t4 := V64.lt
                        replace HB := HB.then (Only.of_below hb)
                        clear hb
                        generalize u3.heap.size = b64 at *
                        refine wpAnyT_ready (rs := [5]) (by kernel_rfl) (by simp) ?_
                        refine AllReadyT.cons rfl (by decide) (fun K hK => ?_) ?_
                        · refine step_append_own rfl _ _ 45 rfl 51 (.agg #[.slice none 0 0, .int .i64 0]) 2 32 Try.underlying45 Try.infoIdR rfl (by decide) (.slice p9 i c9) i L9 (by simp [Act.eval, Act.put]) O9 ⟨b64, 0, none⟩ 1 1 [.slice (some ⟨b62, 0, none⟩) 1 1, .int .i64 0] (by simp [Act.eval, Act.put]) rfl (blk_news V64) (by simp [Value.oneCell']) (by simp only [maxLen]; omega) (by omega) ?_
                          intro g9 v9 u5 hrow hg9' hO
                          refine hK.out _ _ (HS.out _ (HB.then (hO.mono (fun _ _ h => .inl h)))) ?_
                          clear hK K
                          try simp only [Act.put, List.setIfInBounds_toArray, List.set_cons_zero, List.set_cons_succ]
                          have t5V62 := V62.lt
                          replace V62 := V62.only hO (fun h => by have := (HQ.out.x9 _ h).2; omega)
                          have t5V64 := V64.lt
                          replace V64 := V64.only hO (fun h => by have := (HQ.out.x9 _ h).2; omega)
                          have t5V68 := V68.lt
                          replace V68 := V68.only hO (fun h => by have := (HQ.out.x9 _ h).2; omega)
                          have t5V69 := V69.lt
                          replace V69 := V69.only hO (fun h => by have := (HQ.out.x9 _ h).2; omega)
                          replace O10 := owns_only O10 hO (fun k h1 h2 => HQ.out.ne k h2 h1)
                          have hz := HB.size
                          have hg9 : ownB p9 i c9 g9 ∨ W.heap.size ≤ g9 := hg9'.imp id (fun h => by omega)
                          have hg9q : g9 < W.heap.size ∨ g9 = u4.heap.size := hg9'.imp (fun h => (HQ.out.x9 _ h).2) id
                          have n1 : b62 ≠ g9 := by omega
                          have n3 : b68 ≠ g9 := by omega
                          obtain ⟨q9, k9, rfl, -⟩ := Row.form hrow
                          have R9 := hrow
                          have r9 := (row_own R9 (by omega)).2.1
                          have z5 := hO.size
                          replace HB := HB.then (hO.mono (fun _ _ h => .inl h))
                          clear hO hrow hg9' O9 hz
                          refine wpAnyT_take (i := 11) (oi := _) (v := .pointer (some ⟨q, 40, none⟩)) rfl (by kernel_rfl) (fun _ _ _ h => h) (by rfl) (by intro wq hSw; obtain ⟨s40, s41⟩ := hSw; go_simp) (HS.out _ HB) ?_
                          try simp only [Act.put, List.setIfInBounds_toArray, List.set_cons_zero, List.set_cons_succ]
                          refine wpAnyT_ready (rs := [10]) (by kernel_rfl) (by simp) ?_
                          refine AllReadyT.cons rfl (by decide) (fun K hK => ?_) ?_
                          · refine step_append_own rfl _ _ 46 rfl 23 (.slice none 0 0) 1 24 Try.underlying46 Try.infoBsE rfl (by decide) (.slice p10 i c10) i L10 (by simp [Act.eval, Act.put]) O10 ⟨b69, 0, none⟩ 1 1 [.slice (some ⟨b68, 0, none⟩) 32 32] (by simp [Act.eval, Act.put]) rfl (blk_news V69) (by simp [Value.oneCell']) (by simp only [maxLen]; omega) (by omega) ?_
                            intro g10 v10 u6 hrow hg10' hO
                            refine hK.out _ _ (HS.out _ (HB.then (hO.mono (fun _ _ h => .inr h)))) ?_
                            clear hK K
                            try simp only [Act.put, List.setIfInBounds_toArray, List.set_cons_zero, List.set_cons_succ]
                            have t6V62 := V62.lt
                            replace V62 := V62.only hO (fun h => by have := (HQ.out.x10 _ h).2; omega)
                            have t6V64 := V64.lt
                            replace V64 := V64.only hO (fun h => by have := (HQ.out.x10 _ h).2; omega)
                            have t6V68 := V68.lt
                            replace V68 := V68.only hO (fun h => by have := (HQ.out.x10 _ h).2; omega)
                            have t6V69 := V69.lt
                            replace V69 := V69.only hO (fun h => by have := (HQ.out.x10 _ h).2; omega)
                            replace R9 := R9.only hO (fun h => hg9.elim (fun h1 => HQ.out.ne _ h1 h) (fun h1 => by have := (HQ.out.x10 _ h).2; omega))
                            have hz := HB.size
                            have hg10 : ownB p10 i c10 g10 ∨ W.heap.size ≤ g10 := hg10'.imp id (fun h => by omega)
                            have hg : g9 ≠ g10 := fun h => hg10'.elim (fun h1 => hg9.elim (fun h2 => HQ.out.ne _ h2 (by rw [h]; exact h1)) (fun h2 => by have := (HQ.out.x10 _ h1).2; omega)) (fun h1 => by omega)
                            have hg10q : g10 < W.heap.size ∨ g10 = u5.heap.size := hg10'.imp (fun h => (HQ.out.x10 _ h).2) id
                            have n2 : b62 ≠ g10 := by omega
                            have n4 : b68 ≠ g10 := by omega
                            obtain ⟨q10, k10, rfl, -⟩ := Row.form hrow
                            have R10 := hrow
                            replace HB := HB.then (hO.mono (fun _ _ h => .inr h))
                            clear hO hrow hg10' O10 hz
                            refine wpAnyT_tail (by kernel_rfl) ?_
                            have c40 := (HS.out _ HB).1
                            have c41 := (HS.out _ HB).2
                            have f40 := (HF.out _ HB).1
                            have f41 := (HF.out _ HB).2
                            have HZ := Lib.hid (HQ.out.step HB V62 V68 l62 l68 n1 n2 n3 n4 hg hg9 hg10 R9 R10)
                            clear hg9 hg10 HS HF HB R9 R10 V62 V64 V68 V69
                            go_wp2
                            go_roundw
                            case rel => refine ⟨_, _, _, _, _, _, _, _, _, _, _, _, _, _, _, _, _, _, _, ?_, rfl⟩; exact ⟨i + 1, _, _, _, _, _, _, by go_num, by have := HLT.out; omega, HZ.out⟩
                            case measure => have := HLT.out; simp [intOf]; omega
                          exact AllReadyT.nil
                        exact AllReadyT.nil
                      exact AllReadyT.nil
                    exact AllReadyT.nil
                  refine AllReadyT.cons rfl (by decide) (fun K hK => ?_) ?_
                  · go_simp
                    refine hK.out _ _ (HS.out _ (HB.then (Only.of_below ((Below.refl _ _).alloc (Nat.le_refl _) _)))) ?_
                    clear hK K
                    try simp only [Act.put, List.setIfInBounds_toArray, List.set_cons_zero, List.set_cons_succ]
                    refine wpAnyT_alloc ?_
                    intro u2 hb V69
                    replace V68 := V68.below hb
                    replace O9 := owns_only O9 (Only.of_below (r := fun _ => False) hb) (fun _ _ h => h)
                    replace O10 := owns_only O10 (Only.of_below (r := fun _ => False) hb) (fun _ _ h => h)
                    have l69 : W.heap.size ≤ u1.heap.size := HB.size
                    have z2 := hb.size
                    have t2 := V69.lt
                    replace HB := HB.then (Only.of_below hb)
                    clear hb
                    generalize u1.heap.size = b69 at *
                    refine wpAnyT_ready (rs := [2]) (by kernel_rfl) (by simp) ?_
                    refine AllReadyT.cons rfl (by decide) (fun K hK => ?_) ?_
                    · go_simp
                      refine hK.out _ _ (HS.out _ (HB.then (Only.of_below ((Below.refl _ _).alloc (Nat.le_refl _) _)))) ?_
                      clear hK K
                      try simp only [Act.put, List.setIfInBounds_toArray, List.set_cons_zero, List.set_cons_succ]
                      refine wpAnyT_alloc ?_
                      intro u3 hb V62
                      replace V68 := V68.below hb
                      replace V69 := V69.below hb
                      replace O9 := owns_only O9 (Only.of_below (r := fun _ => False) hb) (fun _ _ h => h)
                      replace O10 := owns_only O10 (Only.of_below (r := fun _ => False) hb) (fun _ _ h => h)
                      have l62 : W.heap.size ≤ u2.heap.size := HB.size
                      have z3 := hb.size
                      have t3 := V62.lt
                      replace HB := HB.then (Only.of_below hb)
                      clear hb
                      generalize u2.heap.size = b62 at *
                      refine wpAnyT_take (i := 3) (oi := _) (v := .agg #[.slice (some ⟨b62, 0, none⟩) 1 1, .int .i64 0]) rfl (by kernel_rfl) (fun _ _ _ h => h) (by rfl) (by intro wq hSw; obtain ⟨s40, s41⟩ := hSw; go_simp) (HS.out _ HB) ?_
                      try simp only [Act.put, List.setIfInBounds_toArray, List.set_cons_zero, List.set_cons_succ]
                      refine wpAnyT_ready (rs := [4]) (by kernel_rfl) (by simp) ?_
                      refine AllReadyT.cons rfl (by decide) (fun K hK => ?_) ?_
                      · go_simp
                        refine hK.out _ _ (HS.out _ (HB.then (Only.of_below ((Below.refl _ _).alloc (Nat.le_refl _) _)))) ?_
                        clear hK K
                        try simp only [Act.put, List.setIfInBounds_toArray, List.set_cons_zero, List.set_cons_succ]
                        refine wpAnyT_alloc ?_
                        intro u4 hb V64
                        replace V62 := V62.below hb
                        replace V68 := V68.below hb
                        replace V69 := V69.below hb
                        replace O9 := owns_only O9 (Only.of_below (r := fun _ => False) hb) (fun _ _ h => h)
                        replace O10 := owns_only O10 (Only.of_below (r := fun _ => False) hb) (fun _ _ h => h)
                        have l64 : W.heap.size ≤ u3.heap.size := HB.size
                        have z4 := hb.size
                        have t4 := V64.lt
                        replace HB := HB.then (Only.of_below hb)
                        clear hb
                        generalize u3.heap.size = b64 at *
                        refine wpAnyT_ready (rs := [5]) (by kernel_rfl) (by simp) ?_
                        refine AllReadyT.cons rfl (by decide) (fun K hK => ?_) ?_
                        · refine step_append_own rfl _ _ 45 rfl 51 (.agg #[.slice none 0 0, .int .i64 0]) 2 32 Try.underlying45 Try.infoIdR rfl (by decide) (.slice p9 i c9) i L9 (by simp [Act.eval, Act.put]) O9 ⟨b64, 0, none⟩ 1 1 [.slice (some ⟨b62, 0, none⟩) 1 1, .int .i64 0] (by simp [Act.eval, Act.put]) rfl (blk_news V64) (by simp [Value.oneCell']) (by simp only [maxLen]; omega) (by omega) ?_
                          intro g9 v9 u5 hrow hg9' hO
                          refine hK.out _ _ (HS.out _ (HB.then (hO.mono (fun _ _ h => .inl h)))) ?_
                          clear hK K
                          try simp only [Act.put, List.setIfInBounds_toArray, List.set_cons_zero, List.set_cons_succ]
                          have t5V62 := V62.lt
                          replace V62 := V62.only hO (fun h => by have := (HQ.out.x9 _ h).2; omega)
                          have t5V64 := V64.lt
                          replace V64 := V64.only hO (fun h => by have := (HQ.out.x9 _ h).2; omega)
                          have t5V68 := V68.lt
                          replace V68 := V68.only hO (fun h => by have := (HQ.out.x9 _ h).2; omega)
                          have t5V69 := V69.lt
                          replace V69 := V69.only hO (fun h => by have := (HQ.out.x9 _ h).2; omega)
                          replace O10 := owns_only O10 hO (fun k h1 h2 => HQ.out.ne k h2 h1)
                          have hz := HB.size
                          have hg9 : ownB p9 i c9 g9 ∨ W.heap.size ≤ g9 := hg9'.imp id (fun h => by omega)
                          have hg9q : g9 < W.heap.size ∨ g9 = u4.heap.size := hg9'.imp (fun h => (HQ.out.x9 _ h).2) id
                          have n1 : b62 ≠ g9 := by omega
                          have n3 : b68 ≠ g9 := by omega
                          obtain ⟨q9, k9, rfl, -⟩ := Row.form hrow
                          have R9 := hrow
                          have r9 := (row_own R9 (by omega)).2.1
                          have z5 := hO.size
                          replace HB := HB.then (hO.mono (fun _ _ h => .inl h))
                          clear hO hrow hg9' O9 hz
                          refine wpAnyT_take (i := 11) (oi := _) (v := .pointer (some ⟨q, 40, none⟩)) rfl (by kernel_rfl) (fun _ _ _ h => h) (by rfl) (by intro wq hSw; obtain ⟨s40, s41⟩ := hSw; go_simp) (HS.out _ HB) ?_
                          try simp only [Act.put, List.setIfInBounds_toArray, List.set_cons_zero, List.set_cons_succ]
                          refine wpAnyT_ready (rs := [10]) (by kernel_rfl) (by simp) ?_
                          refine AllReadyT.cons rfl (by decide) (fun K hK => ?_) ?_
                          · refine step_append_own rfl _ _ 46 rfl 23 (.slice none 0 0) 1 24 Try.underlying46 Try.infoBsE rfl (by decide) (.slice p10 i c10) i L10 (by simp [Act.eval, Act.put]) O10 ⟨b69, 0, none⟩ 1 1 [.slice (some ⟨b68, 0, none⟩) 32 32] (by simp [Act.eval, Act.put]) rfl (blk_news V69) (by simp [Value.oneCell']) (by simp only [maxLen]; omega) (by omega) ?_
                            intro g10 v10 u6 hrow hg10' hO
                            refine hK.out _ _ (HS.out _ (HB.then (hO.mono (fun _ _ h => .inr h)))) ?_
                            clear hK K
                            try simp only [Act.put, List.setIfInBounds_toArray, List.set_cons_zero, List.set_cons_succ]
                            have t6V62 := V62.lt
                            replace V62 := V62.only hO (fun h => by have := (HQ.out.x10 _ h).2; omega)
                            have t6V64 := V64.lt
                            replace V64 := V64.only hO (fun h => by have := (HQ.out.x10 _ h).2; omega)
                            have t6V68 := V68.lt
                            replace V68 := V68.only hO (fun h => by have := (HQ.out.x10 _ h).2; omega)
                            have t6V69 := V69.lt
                            replace V69 := V69.only hO (fun h => by have := (HQ.out.x10 _ h).2; omega)
                            replace R9 := R9.only hO (fun h => hg9.elim (fun h1 => HQ.out.ne _ h1 h) (fun h1 => by have := (HQ.out.x10 _ h).2; omega))
                            have hz := HB.size
                            have hg10 : ownB p10 i c10 g10 ∨ W.heap.size ≤ g10 := hg10'.imp id (fun h => by omega)
                            have hg : g9 ≠ g10 := fun h => hg10'.elim (fun h1 => hg9.elim (fun h2 => HQ.out.ne _ h2 (by rw [h]; exact h1)) (fun h2 => by have := (HQ.out.x10 _ h1).2; omega)) (fun h1 => by omega)
                            have hg10q : g10 < W.heap.size ∨ g10 = u5.heap.size := hg10'.imp (fun h => (HQ.out.x10 _ h).2) id
                            have n2 : b62 ≠ g10 := by omega
                            have n4 : b68 ≠ g10 := by omega
                            obtain ⟨q10, k10, rfl, -⟩ := Row.form hrow
                            have R10 := hrow
                            replace HB := HB.then (hO.mono (fun _ _ h => .inr h))
                            clear hO hrow hg10' O10 hz
                            refine wpAnyT_tail (by kernel_rfl) ?_
                            have c40 := (HS.out _ HB).1
                            have c41 := (HS.out _ HB).2
                            have f40 := (HF.out _ HB).1
                            have f41 := (HF.out _ HB).2
                            have HZ := Lib.hid (HQ.out.step HB V62 V68 l62 l68 n1 n2 n3 n4 hg hg9 hg10 R9 R10)
                            clear hg9 hg10 HS HF HB R9 R10 V62 V64 V68 V69
                            go_wp2
                            go_roundw
                            case rel => refine ⟨_, _, _, _, _, _, _, _, _, _, _, _, _, _, _, _, _, _, _, ?_, rfl⟩; exact ⟨i + 1, _, _, _, _, _, _, by go_num, by have := HLT.out; omega, HZ.out⟩
                            case measure => have := HLT.out; simp [intOf]; omega
                          exact AllReadyT.nil
                        exact AllReadyT.nil
                      exact AllReadyT.nil
                    exact AllReadyT.nil
                  exact AllReadyT.nil
                exact AllReadyT.nil
              · -- NEXT
                obtain rfl : i = n := by omega
                have hfin : LimR w more q W := by
                  have hq := HQ.out
                  obtain ⟨ga, hga, hgq⟩ : ∃ g, ((Value.slice p9 i c9).ownBlock = none ∨ (Value.slice p9 i c9).ownBlock = some g) ∧ q < g := by
                    cases hb : (Value.slice p9 i c9).ownBlock with
                    | none => exact ⟨q + 1, .inl rfl, by omega⟩
                    | some g => exact ⟨g, .inr rfl, (hq.x9 g hb).1⟩
                  obtain ⟨gb, hgb, hgq2⟩ : ∃ g, ((Value.slice p10 i c10).ownBlock = none ∨ (Value.slice p10 i c10).ownBlock = some g) ∧ q < g := by
                    cases hb : (Value.slice p10 i c10).ownBlock with
                    | none => exact ⟨q + 1, .inl rfl, by omega⟩
                    | some g => exact ⟨g, .inr rfl, (hq.x10 g hb).1⟩
                  have hl9 : (List.replicate i (([1] : List UInt8), (0 : Int))).length = i := List.length_replicate
                  have hl10 : (List.replicate i (List.replicate 32 (0 : UInt8))).length = i := List.length_replicate
                  have ha := hq.i9.at (e := 51) (g := ga) (v := .slice p9 i c9) (by rw [hl9]; exact ⟨hq.r9, hga⟩)
                  have hb := hq.i10.at (e := 23) (g := gb) (v := .slice p10 i c10) (by rw [hl10]; exact ⟨hq.r10, hgb⟩)
                  rw [hl9] at ha
                  rw [hl10] at hb
                  obtain ⟨pa, ca, hea, ha1, ha2, ha3, ha4⟩ := ha
                  obtain ⟨pb, cb, heb, hb1, hb2, hb3, hb4⟩ := hb
                  cases hea
                  cases heb
                  have hI : IsCl W (· ≠ q) lim0 z := hq.ii.mono (fun k _ (hk : k < q) => (by show k ≠ q; omega))
                  refine ⟨limS 5 i, _, ⟨hq.b, ⟨hI.len, hI.s1, hI.s2, hI.s3, hI.s4, hI.s5, hI.s6, hI.s7, hI.s8, ⟨hl9, ha1.mono (fun k _ hk => ?_), ha2, ha3, ha4⟩, ⟨hl10, hb1.mono (fun k _ hk => ?_), hb2, hb3, hb4⟩⟩, hq.bel, hq.lt⟩, ?_, rfl, ?_, lim_fit 5 i hn5⟩
                  · show k ≠ q
                    rcases hk with hk | hk
                    · have := hk.1; omega
                    · omega
                  · show k ≠ q
                    rcases hk with hk | hk
                    · have := hk.1; omega
                    · omega
                  · rw [HN.out]; exact lim_bad more 5 (by decide)
                  · show (List.replicate i (([1] : List UInt8), (0 : Int))).length ≤ 5
                    omega
                have HFN := Lib.hid hfin
                clear hfin hlt
                go_wp2
                go_meet
                exact HFN.out
        case rest =>
          obtain ⟨s, zz, hJ, hbad, hs0, hi5, hfit⟩ := hcut
          have hJ0 := Lib.hid hJ
          have HB := Lib.hid (And.intro hbad (And.intro hs0 (And.intro hi5 hfit)))
          have hsz : (clV s zz).size = 42 := clV_size _ _ hJ.i.len
          clear hJ hbad hs0 hi5 hfit J7 K I
          go_upto_region 26 with (fail)
          have hz6 : zz.n6 ≤ 4398046511103 := by rw [← hJ0.out.i.s6.1]; have := HB.out.2.1; omega
          have hz9 : zz.n9 ≤ 4398046511103 := by rw [← hJ0.out.i.s9.1]; have := HB.out.2.2.1; omega
          cases more
          · go_wp2_with (first
              | (refine wpList_load_mid rfl 48 (.tmp 5) rfl q 0 rfl (clV s zz).toList _ hJ0.out.b.range Try.underlying48 rfl (by rw [Array.length_toList, hsz]; exact Try.infoRc) ?_; rw [Array.toArray_toList])
              | (go_at_call 17; refine (to_cl s zz _ _ (hJ0.out.i.mono (fun k hk _ => hk)) (Nat.le_refl _) hz6 hz9).mono ?_; rintro en w10 ⟨p6, c6, p9, c9, rfl, hi, hb⟩; have I1 := Lib.hid (And.intro hi hb); clear hi hb)
              | (go_at_call 16; refine (putClient_c s _ w10.heap.size _ I1.out.1 (Nat.le_refl _) HB.out.2.2.2).mono ?_; rintro en w11 ⟨⟨hx, rfl⟩ | ⟨hx, gg, pp, nn, cc, rfl, -⟩, hb2⟩; (· rw [HB.out.1] at hx; cases hx); have I2 := Lib.hid (hJ0.out.bel.trans ((I1.out.2.trans (hb2.mono I1.out.2.size)).mono hJ0.out.bel.size)); clear hx hb2)
              | (go_at_call 12; refine (greets_c _).mono ?_; rintro en w12 ⟨rfl, hb⟩; have I3 := Lib.hid (I2.out.trans (hb.mono I2.out.size)); clear hb))
            all_goals go_ret
            all_goals exact ⟨rfl, I3.out⟩
          · go_wp2_with (first
              | (refine wpList_load_mid rfl 48 (.tmp 5) rfl q 0 rfl (clV s zz).toList _ hJ0.out.b.range Try.underlying48 rfl (by rw [Array.length_toList, hsz]; exact Try.infoRc) ?_; rw [Array.toArray_toList])
              | (go_at_call 17; refine (to_cl s zz _ _ (hJ0.out.i.mono (fun k hk _ => hk)) (Nat.le_refl _) hz6 hz9).mono ?_; rintro en w10 ⟨p6, c6, p9, c9, rfl, hi, hb⟩; have I1 := Lib.hid (And.intro hi hb); clear hi hb)
              | (go_at_call 16; refine (putClient_c s _ w10.heap.size _ I1.out.1 (Nat.le_refl _) HB.out.2.2.2).mono ?_; rintro en w11 ⟨⟨hx, rfl⟩ | ⟨hx, gg, pp, nn, cc, rfl, -⟩, hb2⟩; rotate_left; (· rw [HB.out.1] at hx; cases hx); have I2 := Lib.hid (hJ0.out.bel.trans ((I1.out.2.trans (hb2.mono I1.out.2.size)).mono hJ0.out.bel.size)); clear hx hb2)
              | (go_at_call 12; refine (greets_c _).mono ?_; rintro en w12 ⟨rfl, hb⟩; have I3 := Lib.hid (I2.out.trans (hb.mono I2.out.size)); clear hb))
            all_goals go_ret
            all_goals exact ⟨rfl, I3.out⟩
end Go.Proofs.Ytegmimnhkohaoaa
