/-
  append of a message's bytes, and of a message, onto rows of the call's own, as runs. Conditions: those of each theorem.
-/
import Derived.Test.YtkgeecejgpekkaaMsgsPure
import Derived.Test.YtkgeecejgpekkaaStepA
namespace Go.Kx
open Go.RowKit
theorem cells_new (w : World) (l : List Value) (t : TypeId) : ∀ j u, l[j]? = some u → (w.alloc (.cells l.toArray t)).cell? ((⟨w.heap.size, 0, none⟩ : Addr).add j) = some u := by
  intro j u h
  have : (⟨w.heap.size, 0, none⟩ : Addr).add j = ⟨w.heap.size, j, none⟩ := by unfold Addr.add; split <;> simp_all
  rw [this, World.cell?_alloc_at _ _ _ _ rfl]
  simpa using h
end Go.Kx
namespace Go.Proofs.Ytkgeecejgpekkaa
open Go.RowKit Go.Kx

theorem Try.infoMsg : (Try.prog.info? 25).map (fun i => (i.zero, i.size, i.bytes)) = some (some (.agg #[.int .i64 0, .slice none 0 0]), 2, 32) := by kernel_rfl

theorem ap_bytes (w : World) (g : Nat) (v : Value) (l X : List UInt8) (hown : Own w g v l) (g2 n2 c2 : Nat) (hX : Rd w (· = g2) (some ⟨g2, 0, none⟩) X) (hn2 : X.length = n2) (hpos : 0 < n2) (hb : l.length + n2 ≤ 1000000) :
    ∃ g' n' c' w', (Builtin.append_ #[23, 23] 23 #[v, .slice (some ⟨g2, 0, none⟩) n2 c2]).run Try.prog w = .ok (.slice (some ⟨g', 0, none⟩) n' c') w' ∧ (l ++ X).length = n' ∧ Own w' g' (.slice (some ⟨g', 0, none⟩) n' c') (l ++ X) ∧ (g' = g ∨ g' = w.heap.size) ∧ g' < w'.heap.size ∧ Only (· = g) w w' := by
  obtain ⟨g', v', w', hr, ho, hg, hO⟩ := run_append_bytes (P := Try.prog) w 23 23 Try.underlying23 Try.info5 g v l hown (· = g2) (some ⟨g2, 0, none⟩) n2 c2 X hn2 (by intro h; cases h) hX (by omega)
  have hne : v' ≠ .slice none 0 0 := by
    rintro rfl
    obtain ⟨_, _, hx, _⟩ := ho.form
    injection hx with _ hx _
    rw [List.length_append] at hx
    omega
  obtain ⟨c', rfl, k1, k2, k3⟩ := ho.shape hne
  exact ⟨g', _, c', w', hr, rfl, ho, hg, k3, hO⟩

theorem ap_msg (w : World) (g : Nat) (v : Value) (n : Nat) (xs : List Value) (hrow : Row w 25 2 g v n xs) (B : Nat) (k : Int) (s : Value) (hs : s.oneCell' = true) (hc : ∀ j u, [Value.int .i64 k, s][j]? = some u → w.cell? ((⟨B, 0, none⟩ : Addr).add j) = some u) (hn : n ≤ 1000) :
    ∃ g' c' w', (Builtin.append_ #[22, 22] 22 #[v, .slice (some ⟨B, 0, none⟩) 1 1]).run Try.prog w = .ok (.slice (some ⟨g', 0, none⟩) (n + 1) c') w' ∧ Row w' 25 2 g' (.slice (some ⟨g', 0, none⟩) (n + 1) c') (n + 1) (xs ++ [.int .i64 k, s]) ∧ (g' = g ∨ g' = w.heap.size) ∧ g' < w'.heap.size ∧ Only (· = g) w w' := by
  obtain ⟨g', v', w', hr, hrow', hg, hgr, hn'⟩ := run_append_row (P := Try.prog) w 22 22 25 (.agg #[.int .i64 0, .slice none 0 0]) 2 32 Try.underlying22 Try.infoMsg rfl (by decide) g v n xs hrow ⟨B, 0, none⟩ 1 1 [.int .i64 k, s] rfl hc (by intro u hu; simp at hu; rcases hu with rfl | rfl; rfl; exact hs) (by simp only [maxLen]; omega) (by omega)
  obtain ⟨p, c', rfl, hf, _⟩ := Row.form hrow'
  obtain ⟨rfl, hlt⟩ := hf (by omega)
  refine ⟨g', c', w', hr, hrow', hg, hlt, (Only.of_grown hgr).mono fun x _ hk => ?_⟩
  rcases hrow.2 with h | h
  · rw [h] at hk; cases hk
  · rw [h] at hk; cases hk; rfl
end Go.Proofs.Ytkgeecejgpekkaa
