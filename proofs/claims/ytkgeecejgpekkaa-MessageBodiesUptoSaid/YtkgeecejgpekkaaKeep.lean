/-
  append onto a row of the call's own: what lay in it stays. Conditions: those of each theorem.
-/
import Derived.Test.YtkgeecejgpekkaaBase
namespace Go.Kx
open Go.RowKit

/-- append onto a row of the call's own: it is the same block, or no old block is changed. -/
theorem run_append_row_keep {P : Program} (w : World) (t ty e : TypeId) (z : Value) (size bytes : Nat) (ht : P.underlying t = some (.slice e))
    (hinfo : (P.info? e).map (fun i => (i.zero, i.size, i.bytes)) = some (some z, size, bytes)) (hzs : z.cells.size = size) (hsz : 0 < size)
    (g : Nat) (v : Value) (n : Nat) (xs : List Value) (hown : Row w e size g v n xs)
    (a : Addr) (m c : Nat) (news : List Value) (hl : news.length = m * size) (hnews : ∀ j u, news[j]? = some u → w.cell? (a.add j) = some u) (h1 : ∀ u ∈ news, u.oneCell' = true)
    (h63 : n + m ≤ maxLen) (hbytes : (n + m) * bytes ≤ 140737488355328) :
    ∃ g' v' w', (Builtin.append_ #[t, t] ty #[v, .slice (some a) m c]).run P w = .ok v' w' ∧ Row w' e size g' v' (n + m) (xs ++ news) ∧ (g' = g ∨ g' = w.heap.size) ∧ w.grownBy w' v.ownBlock ∧
      (v' = .slice none 0 0 ↔ v = .slice none 0 0 ∧ m = 0) ∧ (v'.ownBlock = v.ownBlock ∨ Below w.heap.size w w') := by
  obtain ⟨i, hi, hz, hz1, hz2⟩ := info_parts hinfo
  obtain ⟨v', w', hr, ho, hgr, hn⟩ := run_append_own (P := P) w 0 t ty e i z size bytes ht hi hz hz1 hz2 hzs hsz v n xs hown.1 a m c news hl hnews h1 h63 hbytes (Nat.zero_le _)
  have hown' := hown
  obtain ⟨⟨hlen, hcase⟩, hgb⟩ := hown'
  have hB0 : v.ownBlock = none → Below w.heap.size w w' := fun h => (Only.of_grown hgr).below (Nat.le_refl _) (fun k _ hk => by rw [h] at hk; cases hk)
  have key : (v'.ownBlock = none ∨ v'.ownBlock = v.ownBlock ∨ v'.ownBlock = some w.heap.size) ∧ (v'.ownBlock = v.ownBlock ∨ Below w.heap.size w w') := by
    rcases hcase with ⟨rfl, rfl⟩ | ⟨g0, cap, cur, rfl, hb, hg, hnc, hcm, hcs, htake⟩
    · refine ⟨?_, .inr (hB0 rfl)⟩
      by_cases hm : m = 0
      · subst hm
        have : v' = .slice none 0 0 := hn.2 ⟨rfl, rfl⟩
        subst this; exact .inl rfl
      · have hr2 := run_append_nil (P := P) w t ty e i z ht hi hz a m c news (by rw [hz1]; exact hl) hnews (by omega) (by simp only [maxLen] at h63; omega) (by rw [hz2]; have hb := hbytes; simp only [Nat.zero_add] at hb; omega)
        rw [hr2] at hr
        cases hr
        exact .inr (.inr rfl)
    · by_cases hroom : n + m ≤ cap
      · have hfit : n * i.size + news.length ≤ cur.size := by rw [hl, hcs, hz1, ← Nat.add_mul]; exact Nat.mul_le_mul_right _ hroom
        have hr2 := run_append_room (P := P) w t ty e i ht hi g0 n cap cur hg a m c news (by rw [hz1]; exact hl) hnews h1 hroom hfit
        rw [hr2] at hr
        cases hr
        exact ⟨.inr (.inl rfl), .inl rfl⟩
      · have holds : ∀ j u, xs[j]? = some u → w.cell? ((⟨g0, 0, none⟩ : Addr).add j) = some u := hown.1.cells (g := g0) rfl
        have hr2 := run_append_grow (P := P) w t ty e i z ht hi hz ⟨g0, 0, none⟩ n cap xs (by rw [hz1]; exact hlen) holds a m c news (by rw [hz1]; exact hl) hnews (by omega) (by simp only [maxLen] at h63; omega)
          (by rw [hz2]; exact growslice_fits (by omega) hbytes)
        rw [hr2] at hr
        cases hr
        exact ⟨.inr (.inr rfl), .inr (by first | exact ((Below.refl _ w).drew).alloc (Nat.le_refl _) _ | exact ((Below.refl _ w).alloc (Nat.le_refl _) _).drew | exact (Below.refl _ w).alloc (Nat.le_refl _) _)⟩
  obtain ⟨key, key2⟩ := key
  rcases key with h | h | h
  · exact ⟨g, v', w', hr, ⟨ho, .inl h⟩, .inl rfl, hgr, hn, key2⟩
  · exact ⟨g, v', w', hr, ⟨ho, by rw [h]; exact hgb⟩, .inl rfl, hgr, hn, key2⟩
  · exact ⟨w.heap.size, v', w', hr, ⟨ho, .inr h⟩, .inr rfl, hgr, hn, key2⟩

/-- append(b, news...) onto bytes of the call's own: b's own bytes stay. -/
theorem wpList_append_keep {P : Program} (w : World) {ops : Array Oper} {rest : List Oper} {o : Oper} {a : Act} {Q : Exit → Act → World → Prop} (hgd : o.guard = none) (s x : Operand) (t : TypeId)
    (ho : o.op = .call { callee := .builtin .append, args := #[s, x], argTypes := #[t, t] })
    (ht : P.underlying t = some (.slice 5)) (hi : (P.info? 5).map (fun i => (i.zero, i.size, i.bytes)) = some (some (.int .u8 0), 1, 1))
    (g n c0 : Nat) (l : List UInt8) (hs : a.eval s = .slice (some ⟨g, 0, none⟩) n c0) (hown : Own w g (.slice (some ⟨g, 0, none⟩) n c0) l) (hln : l.length = n)
    (ad : Addr) (m c : Nat) (news : List UInt8) (hx : a.eval x = .slice (some ad) m c) (hm : news.length = m) (S : Nat → Prop) (hnw : Rd w S (some ad) news) (hpos : 0 < m)
    (hbytes : l.length + news.length ≤ 140737488355328)
    (h : ∀ g' n' c' w', n' = n + m → n' ≤ c' → c' ≤ maxLen → g' < w'.heap.size → Own w' g' (.slice (some ⟨g', 0, none⟩) n' c') (l ++ news) → (g' = g ∨ g' = w.heap.size) → Only (· = g) w w' → Rd w' (· = g) (some ⟨g, 0, none⟩) l → wpList P ops Q rest (a.put o.dst (.slice (some ⟨g', 0, none⟩) n' c')) w') : wpList P ops Q (o :: rest) a w := by
  subst hm
  have hnews : ∀ j u, (news.map B8)[j]? = some u → w.cell? (ad.add j) = some u := by
    intro j u hu
    simp only [List.getElem?_map, Option.map_eq_some_iff] at hu
    obtain ⟨b, hb, rfl⟩ := hu
    obtain ⟨hj, rfl⟩ := List.getElem?_eq_some_iff.1 hb
    obtain ⟨a', ha', _, hc'⟩ := hnw j hj
    cases ha'
    exact hc'
  obtain ⟨g', v', w', hr, hrow, hg', hgr, hnl, hk⟩ := run_append_row_keep (P := P) w t o.type 5 (.int .u8 0) 1 1 ht hi rfl (by decide) g _ n (l.map B8) (show Row w 5 1 g (.slice (some ⟨g, 0, none⟩) n c0) n (l.map B8) by subst hln; exact hown) ad news.length c (news.map B8) (by simp) hnews (oneCell_map _) (by unfold maxLen; omega) (by omega)
  have ho' : Own w' g' v' (l ++ news) := by unfold Own; rw [List.length_append, hln]; simpa using hrow
  have hne : v' ≠ .slice none 0 0 := by
    intro e
    have := (hnl.1 e).2
    omega
  obtain ⟨c', rfl, k1, k2, k3⟩ := ho'.shape hne
  have hO : Only (· = g) w w' := (Only.of_grown hgr).mono fun k _ hk' => by simp [Value.ownBlock] at hk'; exact hk'
  have hRl : Rd w' (· = g) (some ⟨g, 0, none⟩) l := by
    rcases hk with hk | hk
    · have hgg : g' = g := by simpa [Value.ownBlock] using hk
      subst hgg
      have := (Own.rd ho').take l.length
      rwa [List.take_left] at this
    · exact hown.rd.below hk
  have hn' : (l ++ news).length = n + news.length := by rw [List.length_append, hln]
  have hfin := h g' (l ++ news).length c' w' hn' k1 k2 k3 ho' hg' hO hRl
  clear h hrow hown hnews hnw
  refine wpList_plain hgd fun K hK => ?_
  exact wp_append_run w s x t ho (.slice (some ⟨g, 0, none⟩) n c0) (.slice (some ad) news.length c) hs hx hr (hK _ _ hfin)
end Go.Kx
