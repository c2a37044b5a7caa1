/-
  A slice of bytes turned into a string; what lies still while the loops of StreamPieces run; their relations. No condition but those that each theorem states.
-/
import Derived.Test.YtcgdeebjgcgepaaWalkG
import Derived.Test.YtcgdeebjgcgepaaWalkI
import Derived.Test.YtcgdeebjgcgepaaSpecB
import Derived.Laws.BytesArg
namespace Go.Proofs.Ytcgdeebjgcgepaa
open Go.RowKit Go.Kx

theorem run_str {w : World} {S : Nat → Prop} {p : Option Addr} {n c : Nat} {l : List UInt8} (h : Rd w S p l) (hn : l.length = n) :
    (convert 22 9 (.slice p n c)).run Try.prog w = .ok (.string ⟨l.toArray⟩) w := by
  subst hn
  cases p with
  | none =>
    have := h.none_nil
    subst this
    exact run_convert_bytes_nil w 22 5 Try.underlying22 Try.underlying5 _ _ 9 Try.underlying9
  | some a =>
    cases l with
    | nil =>
      show Sem.run Try.prog (convert 22 9 (.slice (some a) 0 c)) w = _
      rw [run_convert_bytes_string w 22 9 5 a 0 c Try.underlying22 Try.underlying5 Try.underlying9, run_bytesToString w a 0 c [] (by simp [loadCells, loadCellsFrom, Sem.run_pure])]
      rfl
    | cons b t =>
      obtain ⟨g, o, he, _, _, hc⟩ := h.at (by simp)
      cases he
      rw [run_convert_bytes_arg w 22 5 Try.underlying22 Try.underlying5 g o _ c ((b :: t).map fun x => (x.toNat : Int)) (by simp) (fun i hi => by rw [hc i hi, List.getD_eq_getElem?_getD, List.getElem?_map, List.getElem?_eq_getElem hi]; rfl) 9 Try.underlying9]
      congr 2
      unfold strOfNums
      congr 2
      rw [List.map_map]
      have : ∀ l : List UInt8, l.map ((fun n => UInt8.ofNat n.toNat) ∘ fun x => ((x.toNat : Nat) : Int)) = l := by
        intro l
        induction l with
        | nil => rfl
        | cons x r ih => rw [List.map_cons, ih]; simp
      exact this _

theorem none_c (w : World) : Calls Try.prog 5 #[] w fun e w' => e = .returned (.pointer none) ∧ w = w' := by
  go_enter Try.func5, Try.ntmps5
  go_wp2
  go_ret
  exact ⟨rfl, rfl⟩


theorem RecsAt.mono {w : World} {S T : Nat → Prop} (hk : ∀ {p : Option Addr} {l : List UInt8}, Rd w S p l → Rd w T p l) : ∀ {xs : List Value} {rs : List (UInt8 × List UInt8)}, RecsAt w S xs rs → RecsAt w T xs rs
  | [], [], _ => trivial
  | [], _ :: _, h => by simp [RecsAt] at h
  | [_], [], h => by simp [RecsAt] at h
  | [_], _ :: _, h => by simp [RecsAt] at h
  | _ :: _ :: _, [], h => by simp [RecsAt] at h
  | k :: v :: xs, (kb, body) :: rs, h => by
    obtain ⟨h1, ⟨p, c, h2, h3, h4⟩, h5⟩ := h
    exact ⟨h1, ⟨p, c, h2, h3, hk h4⟩, RecsAt.mono hk h5⟩

theorem Row.form {w : World} {e : TypeId} {sz g : Nat} {v : Value} {n : Nat} {xs : List Value} (h : Row w e sz g v n xs) :
    ∃ p c, v = .slice p n c ∧ (0 < n → p = some ⟨g, 0, none⟩ ∧ g < w.heap.size) ∧ (∀ j u, xs[j]? = some u → w.cell? ⟨g, j, none⟩ = some u) := by
  obtain ⟨h1, h2⟩ := h
  rcases h1.2 with ⟨hv, h0⟩ | ⟨g', cap, cur, hv, hb, hg, hn, hm, hs, ht⟩
  · subst h0
    have hx : xs = [] := List.eq_nil_of_length_eq_zero (by rw [h1.1]; simp)
    subst hx
    exact ⟨none, 0, hv, by intro h; omega, by intro j u h; simp at h⟩
  · have : g' = g := by rw [hv] at h2; simpa [Value.ownBlock] using h2
    subst this
    refine ⟨_, cap, hv, fun _ => ⟨rfl, (Array.getElem?_eq_some_iff.1 hg).1⟩, fun j u hu => ?_⟩
    have := World.ownsRow.cells h1 (g := g') (by rw [hv]; rfl) j u hu
    rwa [show (⟨g', 0, none⟩ : Addr).add j = ⟨g', j, none⟩ from by unfold Addr.add; split <;> simp_all] at this

/-- Ints that lie somewhere. -/
def IntsAt (w : World) (S : Nat → Prop) (q : Option Addr) (m : Nat) (zs : List Int) : Prop := ∀ i, i < m → ∃ a, q = some a ∧ S a.block ∧ w.cell? (a.add i) = some (.int .i64 (zs.getD i 0))
theorem IntsAt.at {w : World} {S : Nat → Prop} {q : Option Addr} {m : Nat} {zs : List Int} (h : IntsAt w S q m zs) {i : Nat} (hi : i < m) :
    ∃ b o, q = some ⟨b, o, none⟩ ∧ S b ∧ w.cell? ⟨b, o + i, none⟩ = some (.int .i64 (zs.getD i 0)) := by
  obtain ⟨⟨b, o, s⟩, rfl, hs, hc⟩ := h 0 (by omega)
  have : s = none := by simpa [Addr.add] using World.cell?_spot hc
  subst this
  obtain ⟨a, ha, _, hc'⟩ := h i hi
  cases ha
  refine ⟨b, o, rfl, hs, ?_⟩
  rwa [show (⟨b, o, none⟩ : Addr).add i = ⟨b, o + i, none⟩ from by unfold Addr.add; split <;> simp_all] at hc'

/-- What lies still while the loops run. -/
structure Ctx (wa : World) (q : Option Addr) (m : Nat) (zs : List Int) (gb : Nat) (L : List UInt8) (pw : Option Addr) (gw : Nat) (recs : List (UInt8 × List UInt8)) (xs : List Value) (pl : Option Addr) (left : List UInt8) : Prop where
  ints : IntsAt wa (· < wa.heap.size) q m zs
  rb : Rd wa (· < wa.heap.size) (some ⟨gb, 0, none⟩) L
  rl : Rd wa (· < wa.heap.size) pl left
  rc : RecsAt wa (· < wa.heap.size) xs recs
  pw : 0 < recs.length → pw = some ⟨gw, 0, none⟩ ∧ gw < wa.heap.size
  cw : ∀ j u, xs[j]? = some u → wa.cell? ⟨gw, j, none⟩ = some u
theorem hop (a : Nat) (z : Int) (ha : a ≤ 900) : ∃ t : Nat, wrap64 ((a : Int) + wrap64 ((IntKind.u64.wrap z).tmod 60)) = (t : Int) ∧ a ≤ t := by
  have h0 : 0 ≤ IntKind.u64.wrap z := by rw [IntKind.wrap_u64]; omega
  rw [Int.tmod_eq_emod_of_nonneg h0]
  generalize IntKind.u64.wrap z = y at h0
  have h1 : 0 ≤ y % 60 ∧ y % 60 < 60 := ⟨Int.emod_nonneg _ (by omega), Int.emod_lt_of_pos _ (by omega)⟩
  generalize y % 60 = x at h1
  rw [IntWalk.wrap64_in x ⟨by omega, by omega⟩, IntWalk.wrap64_in _ ⟨by omega, by omega⟩]
  exact ⟨a + x.toNat, by omega, by omega⟩
theorem blw_drewN {B : Nat} {a w : World} (n : Nat) (h : Below B a w) : Below B a (w.drewN n) := ⟨h.os, h.tape, h.output, h.size, h.block⟩
theorem Ctx.rdb {wa wr : World} {L : List UInt8} {p : Option Addr} (h : Rd wa (· < wa.heap.size) p L) (hb : Below wa.heap.size wa wr) : Rd wr (· < wa.heap.size) p L := h.kept fun k _ hs => hb.block k hs

/-- The relation of the outer loop: v13 the reader, v14 where it is, v15 how many records were taken, v16 the error, v17 the round. -/
def OutRel (wa : World) (L : List UInt8) (recs : List (UInt8 × List UInt8)) (left : List UInt8) (bad : Int) (m : Nat) (v13 v14 v15 v16 v17 : Value) (wr : World) : Prop :=
  ∃ r g l at_ n i err, v13 = rp r ∧ v14 = .int .i64 ((at_ : Nat) : Int) ∧ v15 = .int .i64 ((n : Nat) : Int) ∧ v16 = .int .i64 err ∧ v17 = .int .i64 ((i : Nat) : Int) ∧ wa.heap.size ≤ r ∧ wa.heap.size ≤ g ∧ at_ ≤ L.length ∧ i ≤ 40 ∧ i ≤ m + 1 ∧ l.length ≤ at_ ∧ n ≤ recs.length ∧
    Rdr wr r g l err ∧ Below wa.heap.size wa wr ∧
    (err = 0 → Yet recs left bad n (l ++ L.drop at_) ∧ takeS l = (0, none) ∧ (i ≤ m ∧ i < 40 ∨ at_ = L.length)) ∧
    (err ≠ 0 → n = recs.length ∧ bad = err)
/-- The relation of the inner loop. -/
def InRel (wa : World) (L : List UInt8) (recs : List (UInt8 × List UInt8)) (left : List UInt8) (bad : Int) (r tt : Nat) (k : Nat) (v15 : Value) (wr : World) : Prop :=
  ∃ g l n, v15 = .int .i64 ((n : Nat) : Int) ∧ l.length = k ∧ k ≤ tt ∧ wa.heap.size ≤ g ∧ n ≤ recs.length ∧ Rdr wr r g l 0 ∧ Below wa.heap.size wa wr ∧ Yet recs left bad n (l ++ L.drop tt)
end Go.Proofs.Ytcgdeebjgcgepaa
