/-
  The contracts of hello.retry and relayref08.Retry: one number, told by both. No condition.
-/
import Derived.Test.YtegmimnhkohaoaaRSum
import Derived.Test.YtegmimnhkohaoaaStr
namespace Go.Proofs.Ytegmimnhkohaoaa
open Go.RowKit Go.Kx
set_option linter.unusedVariables false
set_option linter.unusedSimpArgs false

def retryText : List UInt8 := [72, 101, 108, 108, 111, 82, 101, 116, 114, 121, 82, 101, 113, 117, 101, 115, 116]
/-- The random number of a retry. -/
def retryL : List UInt8 := sumL retryText
theorem retryL_len : retryL.length = 32 := sumL_len _
theorem retryL_ne : retryL ≠ List.replicate 32 0 := by decide +kernel

theorem Arr.conv (w : World) (o : Obj) (C : Array Value) : (convert 23 23 (.slice (some ⟨w.heap.size + 1, 0, none⟩) 17 17)).run Try.prog ((w.alloc o).alloc (.cells C 5)) = .ok (.slice (some ⟨w.heap.size + 1, 0, none⟩) 17 17) ((w.alloc o).alloc (.cells C 5 (C.size, C.size + 1))) := by
  have h := Lib.run_convert_bytes_const (P := Try.prog) (w.alloc o) 23 5 C 17 17 Try.underlying23 Try.underlying5
  simpa only [World.size_alloc] using h
theorem retry_rd (w : World) (o : Obj) (m : Nat × Nat) : Rd ((w.alloc o).alloc (.cells (retryText.map B8).toArray 5 m)) (fun _ => True) (some ⟨w.heap.size + 1, 0, none⟩) retryText := by
  have h := Rd.litm (w.alloc o) retryText m
  rw [World.size_alloc] at h
  exact h.mono (fun _ _ _ => trivial)

set_option maxRecDepth 100000 in
set_option maxHeartbeats 4000000 in
theorem retry_c (w : World) : Calls Try.prog 29 #[] w (SumR w retryL) := by
  have hcv := Arr.conv w
  have hz : ∀ m, ArrB ((w.alloc (.cells ((List.replicate 32 (0 : UInt8)).map B8).toArray 22)).alloc (.cells (retryText.map B8).toArray 5 m)) w.heap.size 22 (List.replicate 32 0) := fun m => (ArrB.new w _ _).below ((Below.refl _ _).alloc (Nat.le_refl _) _)
  have hB : ∀ m, Below w.heap.size w ((w.alloc (.cells ((List.replicate 32 (0 : UInt8)).map B8).toArray 22)).alloc (.cells (retryText.map B8).toArray 5 m)) := fun m => (((Below.refl _ _).alloc (Nat.le_refl _) _)).alloc (by simp) _
  have hrr := fun o m => retry_rd w o m
  have HZ := Lib.hid (And.intro hz (And.intro hB hrr))
  clear hz hB hrr
  go_enter Try.func29, Try.ntmps29
  go_upto_region 1 with (fail)
  go_wp2_with (first
    | (go_at_call 66; refine (sum_c (fun _ => True) _ 17 17 retryText _ (HZ.out.2.2 _ _) (by intro h; cases h) (by decide) rfl).mono ?_; rintro e w1 ⟨rfl, b1⟩; have A1 := (HZ.out.1 _).below b1; have HA1 := Lib.hid A1; have HB1 := Lib.hid b1; have L1 := A1.lt; clear A1 b1)
    | (refine st_arrB rfl 22 (.tmp 0) _ rfl w.heap.size retryL rfl rfl _ _ HA1.out (by rw [retryL_len]; exact Try.infoB32) (by rw [retryL_len]; rfl) ?_; intro w7 hA7 hO7))
  refine bodyPost_ret (v := .agg (retryL.map B8).toArray) (results_cell_row (P := Try.prog) Try.results29 _ _ w.heap.size _ _ _ _ rfl hA7 Try.underlying22 rfl (by rw [Try.infoB32]; simp [retryL_len])) rfl (And.intro rfl ?_)
  have h2 := (HZ.out.2.1 _).trans (HB1.out.mono (by simp; omega))
  exact below_only h2 h2.size hO7 (by intro k hk e; omega)

set_option maxRecDepth 100000 in
set_option maxHeartbeats 4000000 in
theorem rretry_c (w : World) : Calls Try.prog 37 #[] w (SumR w retryL) := by
  have hcv := Arr.conv w
  have hz : ∀ m, ArrB ((w.alloc (.cells ((List.replicate 32 (0 : UInt8)).map B8).toArray 22)).alloc (.cells (retryText.map B8).toArray 5 m)) w.heap.size 22 (List.replicate 32 0) := fun m => (ArrB.new w _ _).below ((Below.refl _ _).alloc (Nat.le_refl _) _)
  have hB : ∀ m, Below w.heap.size w ((w.alloc (.cells ((List.replicate 32 (0 : UInt8)).map B8).toArray 22)).alloc (.cells (retryText.map B8).toArray 5 m)) := fun m => (((Below.refl _ _).alloc (Nat.le_refl _) _)).alloc (by simp) _
  have hrr := fun o m => retry_rd w o m
  have HZ := Lib.hid (And.intro hz (And.intro hB hrr))
  clear hz hB hrr
  go_enter Try.func37, Try.ntmps37
  go_upto_region 1 with (fail)
  go_wp2_with (first
    | (go_at_call 75; refine (rsum_c (fun _ => True) _ 17 17 retryText _ (HZ.out.2.2 _ _) (by intro h; cases h) (by decide) rfl).mono ?_; rintro e w1 ⟨rfl, b1⟩; have A1 := (HZ.out.1 _).below b1; have HA1 := Lib.hid A1; have HB1 := Lib.hid b1; have L1 := A1.lt; clear A1 b1)
    | (refine st_arrB rfl 22 (.tmp 0) _ rfl w.heap.size retryL rfl rfl _ _ HA1.out (by rw [retryL_len]; exact Try.infoB32) (by rw [retryL_len]; rfl) ?_; intro w7 hA7 hO7))
  refine bodyPost_ret (v := .agg (retryL.map B8).toArray) (results_cell_row (P := Try.prog) Try.results37 _ _ w.heap.size _ _ _ _ rfl hA7 Try.underlying22 rfl (by rw [Try.infoB32]; simp [retryL_len])) rfl (And.intro rfl ?_)
  have h2 := (HZ.out.2.1 _).trans (HB1.out.mono (by simp; omega))
  exact below_only h2 h2.size hO7 (by intro k hk e; omega)
end Go.Proofs.Ytegmimnhkohaoaa
