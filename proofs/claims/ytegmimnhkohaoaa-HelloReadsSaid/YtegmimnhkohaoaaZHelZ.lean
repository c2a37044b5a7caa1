/-
  The contracts of relayref08.SameServer of two that are the same, and of relaylaw08.greets. No condition.
-/
import Derived.Test.YtegmimnhkohaoaaZg8
namespace Go.Proofs.Ytegmimnhkohaoaa
open Go.RowKit Go.Kx
set_option linter.unusedVariables false
set_option linter.unusedSimpArgs false
theorem SvN.is {w : World} {S : Nat → Prop} {s : Sv} {z : S3} (h : SvN w S s z) : IsSv w w.heap.size s z :=
  ⟨h.len, ⟨h.s1.1, h.s1.2.1.mono (fun k hk _ => hk), h.s1.2.2.1⟩, ⟨h.s2.1, h.s2.2.1.mono (fun k hk _ => hk), h.s2.2.2.1⟩, ⟨h.s3.1, h.s3.2.1.mono (fun k hk _ => hk), h.s3.2.2.1⟩⟩

set_option maxHeartbeats 8000000 in
set_option maxRecDepth 100000 in
theorem sameServer_c (s : Sv) (za zb : S3) (Ma Mb : Nat) (w : World) (ha : IsSv w Ma s za) (hb : IsSv w Mb s zb) : Calls Try.prog 14 #[.agg (svV s za), .agg (svV s zb)] w (BoolR w true) := by
  have hz1 : (w.alloc (.cells (svV s za) 27)).heap.size = w.heap.size + 1 := World.size_alloc _ _
  have hB1 : Below w.heap.size w (w.alloc (.cells (svV s za) 27)) := (Below.refl _ _).alloc (Nat.le_refl _) _
  have hB2 : Below (w.alloc (.cells (svV s za) 27)).heap.size (w.alloc (.cells (svV s za) 27)) ((w.alloc (.cells (svV s za) 27)).alloc (.cells (svV s zb) 27)) := (Below.refl _ _).alloc (Nat.le_refl _) _
  have hbA := (Blk.new w 27 (svV s za)).below hB2
  have hbB := Blk.new (w.alloc (.cells (svV s za) 27)) 27 (svV s zb)
  rw [hz1] at hbB
  have hBB := hB1.trans (hB2.mono hB1.size)
  have hkp : ∀ w', Blk w' w.heap.size 27 (svV s za) → Blk w' (w.heap.size + 1) 27 (svV s zb) → IsSv w' Ma s za → IsSv w' Mb s zb → (w'.rangeAt w.heap.size 0 (s.R.map B8) ∧ w'.rangeAt (w.heap.size + 1) 0 (s.R.map B8) ∧ w'.cell? ⟨w.heap.size, 32, none⟩ = some (.slice za.p1 za.n1 za.c1) ∧ w'.cell? ⟨w.heap.size, 33, none⟩ = some (.int .i64 s.suite) ∧ w'.cell? ⟨w.heap.size, 34, none⟩ = some (.int .i64 s.ver) ∧ w'.cell? ⟨w.heap.size, 35, none⟩ = some (.int .i64 s.grp) ∧ w'.cell? ⟨w.heap.size, 36, none⟩ = some (.slice za.p2 za.n2 za.c2) ∧ w'.cell? ⟨w.heap.size, 37, none⟩ = some (.bool s.retry) ∧ w'.cell? ⟨w.heap.size, 38, none⟩ = some (.slice za.p3 za.n3 za.c3) ∧ w'.cell? ⟨w.heap.size, 39, none⟩ = some (.int .i64 s.psk) ∧ w'.cell? ⟨(w.heap.size + 1), 32, none⟩ = some (.slice zb.p1 zb.n1 zb.c1) ∧ w'.cell? ⟨(w.heap.size + 1), 33, none⟩ = some (.int .i64 s.suite) ∧ w'.cell? ⟨(w.heap.size + 1), 34, none⟩ = some (.int .i64 s.ver) ∧ w'.cell? ⟨(w.heap.size + 1), 35, none⟩ = some (.int .i64 s.grp) ∧ w'.cell? ⟨(w.heap.size + 1), 36, none⟩ = some (.slice zb.p2 zb.n2 zb.c2) ∧ w'.cell? ⟨(w.heap.size + 1), 37, none⟩ = some (.bool s.retry) ∧ w'.cell? ⟨(w.heap.size + 1), 38, none⟩ = some (.slice zb.p3 zb.n3 zb.c3) ∧ w'.cell? ⟨(w.heap.size + 1), 39, none⟩ = some (.int .i64 s.psk) ∧ (convert 23 9 (.slice za.p1 za.n1 za.c1)).run Try.prog w' = .ok (.string ⟨s.ses.toArray⟩) w' ∧ (convert 23 9 (.slice za.p2 za.n2 za.c2)).run Try.prog w' = .ok (.string ⟨s.key.toArray⟩) w' ∧ (convert 23 9 (.slice za.p3 za.n3 za.c3)).run Try.prog w' = .ok (.string ⟨s.cook.toArray⟩) w' ∧ (convert 23 9 (.slice zb.p1 zb.n1 zb.c1)).run Try.prog w' = .ok (.string ⟨s.ses.toArray⟩) w' ∧ (convert 23 9 (.slice zb.p2 zb.n2 zb.c2)).run Try.prog w' = .ok (.string ⟨s.key.toArray⟩) w' ∧ (convert 23 9 (.slice zb.p3 zb.n3 zb.c3)).run Try.prog w' = .ok (.string ⟨s.cook.toArray⟩) w') := by
    intro w' h1 h2 h3 h4
    exact ⟨h1.rnd h3, h2.rnd h4, h1.c32 h3, h1.c33 h3, h1.c34 h3, h1.c35 h3, h1.c36 h3, h1.c37 h3, h1.c38 h3, h1.c39 h3, h2.c32 h4, h2.c33 h4, h2.c34 h4, h2.c35 h4, h2.c36 h4, h2.c37 h4, h2.c38 h4, h2.c39 h4, run_str (c := za.c1) h3.s1.2.1 h3.s1.1, run_str (c := za.c2) h3.s2.2.1 h3.s2.1, run_str (c := za.c3) h3.s3.2.1 h3.s3.1, run_str (c := zb.c1) h4.s1.2.1 h4.s1.1, run_str (c := zb.c2) h4.s2.2.1 h4.s2.1, run_str (c := zb.c3) h4.s3.2.1 h4.s3.1⟩
  have hs := fun w => run_eq32 w 9998 s.R s.R ha.len ha.len
  have hself : (s.R == s.R) = true := by simp
  rw [hself] at hs
  have hg := Try.guard32
  have hu := Try.underlying22
  have hi : (Try.prog.info? 22).map (·.size) = some (s.R.map B8).length := by rw [List.length_map, ha.len]; exact Try.infoB32
  have H := Lib.hid (And.intro hbA (And.intro hbB (And.intro (ha.below hBB) (And.intro (hb.below hBB) hBB))))
  have HK := Lib.hid hkp
  clear hz1 hB1 hB2 hbA hbB hBB ha hb hself hkp
  go_enter Try.func14, Try.ntmps14
  go_upto_region 1 with (fail)
  generalize (w.alloc (.cells (svV s za) 27)).alloc (.cells (svV s zb) 27) = w2 at *
  have hI := HK.out w2 H.out.1 H.out.2.1 H.out.2.2.1 H.out.2.2.2.1
  have HI := Lib.hid hI
  clear hI
  apply wp_region_lit
  refine wpList_plain (o := ⟨some 5, _, _, _, _, _⟩) rfl (fun K hK => ?_)
  go_simp
  refine hK _ _ ?_
  clear hK K
  refine wpList_load_mid rfl 22 (.tmp 5) rfl w.heap.size 0 rfl (s.R.map B8) _ HI.out.1 hu rfl hi ?_
  refine wpList_plain (o := ⟨some 7, _, _, _, _, _⟩) rfl (fun K hK => ?_)
  go_simp
  refine hK _ _ ?_
  clear hK K
  refine wpList_load_mid rfl 22 (.tmp 7) rfl (w.heap.size + 1) 0 rfl (s.R.map B8) _ HI.out.2.1 hu rfl hi ?_
  obtain ⟨-, -, a32, a33, a34, a35, a36, a37, a38, a39, b32, b33, b34, b35, b36, b37, b38, b39, q1, q2, q3, r1, r2, r3⟩ := HI.out
  all_goals go_wp2
  all_goals go_ret
  all_goals exact ⟨rfl, H.out.2.2.2.2⟩

/-- The plain answer. -/
def gS : Sv := ⟨List.replicate 32 0, [], 4867, 772, 0, [], false, [], -1⟩
theorem gS_ok : rokS gS = true := by decide +kernel
theorem gS_len : (rputL gS).length = 46 := by decide +kernel
theorem gS_put : putS gS = (rputL gS, false) := (putS_is gS).1 gS_ok
theorem gS_get : getS (rputL gS) = (gS, 0) := getS_back gS (by decide) gS_ok
theorem gS_is (w : World) (M : Nat) : IsSv w M gS z0 := ⟨by decide, ⟨rfl, Rd.nil _ _ _, fun _ => rfl⟩, ⟨rfl, Rd.nil _ _ _, fun _ => rfl⟩, ⟨rfl, Rd.nil _ _ _, fun _ => rfl⟩⟩
theorem Try.built_gS : Try.prog.built 33 [(2, .int .i64 4867), (3, .int .i64 772), (7, .int .i64 (-1))] = some (svV gS z0) := by kernel_rfl

set_option maxHeartbeats 8000000 in
set_option maxRecDepth 100000 in
theorem greets_c (w : World) : Calls Try.prog 12 #[] w (BoolR w true) := by
  have hz := run_zeroSv
  go_enter Try.func12, Try.ntmps12
  go_upto_region 2 with (first
    | (refine wpList_build_eq rfl 33 _ rfl (C := svV gS z0) rfl Try.built_gS ?_)
    | (go_at_call 9; refine (putServer_c gS z0 0 _ (gS_is _ _) (Nat.zero_le _)).mono ?_; rw [gS_put]; rintro e w1 ⟨⟨h, _⟩ | ⟨_, g, p, n, c, rfl, hn, hg, hO⟩, hb⟩; (· cases h); have H1 := Lib.hid (And.intro hO hb); obtain rfl : n = 46 := (hn.symm.trans gS_len); clear hO hb hn))
  have hcp : p = none → c = 0 := by obtain ⟨p', c', he, _, _, _, hp, _⟩ := H1.out.1.form; cases he; exact hp
  have HCP := Lib.hid hcp
  clear hcp
  go_upto_region 3 with (first
    | (go_at_call 13; refine (getServer_c (· = g) p 46 c (rputL gS) _ H1.out.1.rd HCP.out (by rw [gS_len]; omega) gS_len).mono ?_; rw [gS_get]; rintro e w2 ⟨z, rfl, hv, hb⟩; have H2 := Lib.hid (And.intro hv (And.intro (H1.out.2.trans (hb.mono H1.out.2.size)) (Blk.new w2 33 (svV svZ z0)))); clear hv hb)
    | (refine st_blk rfl 33 (.tmp 3) (.tmp 13) rfl w2.heap.size (svV gS z) rfl rfl 33 (svV svZ z0) H2.out.2.2 (by rw [svV_size' _ _ rfl]; exact Try.infoSv) (by rw [svV_size' _ _ rfl, svV_size' _ _ rfl]) (svV_ones _ _) ?_; intro w3 hb3 ho3; have H3 := Lib.hid (And.intro hb3 ho3); clear hb3 ho3))
  have c33 := H3.out.1.c33 H2.out.1.is
  have c39 := H3.out.1.c39 H2.out.1.is
  have e1 : gS.suite = 4867 := rfl
  have e2 : gS.psk = -1 := rfl
  rw [e1] at c33
  rw [e2] at c39
  have hw2 := H2.out.2.1.size
  clear hz e1 e2
  go_wp2
  go_ret
  exact ⟨rfl, below_only (H2.out.2.1.trans ((Below.refl _ _).alloc hw2 _)) (by rw [World.size_alloc]; omega) H3.out.2 (by intro k hk e; omega)⟩
end Go.Proofs.Ytegmimnhkohaoaa
