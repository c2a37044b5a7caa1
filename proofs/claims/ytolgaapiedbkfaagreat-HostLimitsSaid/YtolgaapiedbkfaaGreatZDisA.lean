/-
  The contracts of disk's may, Size, Read and Write. Conditions: a disk that has power and keeps it; a sector that is there; sixty-four bytes.
-/
import Derived.Test.YtolgaapiedbkfaaGreatZVauD
namespace Go.Proofs.YtolgaapiedbkfaaGreat
open Go.RowKit Go.Kx
set_option linter.unusedVariables false
set_option linter.unusedSimpArgs false
set_option maxRecDepth 100000
/-- A disk's cells, behind so many writes. -/
def diV (g n k : Nat) : Array Value := #[.slice (some ⟨g, 0, none⟩) n n, .bool false, .int .i64 (-1), .int .i64 0, .int .i64 (k : Int)]
/-- A disk with power; its bytes side by side. -/
structure DiskI (w : World) (r g n k : Nat) (L : List UInt8) : Prop where
  b : Blk w r 47 (diV g n k)
  s : ArrB w g 142 L
  l : L.length = 64 * n
  ne : r ≠ g
  n0 : 1 ≤ n ∧ n ≤ 512
theorem DiskI.below {w w' : World} {r g n k : Nat} {L : List UInt8} (h : DiskI w r g n k L) (hb : Below w.heap.size w w') : DiskI w' r g n k L := ⟨h.b.below hb, h.s.below hb, h.l, h.ne, h.n0⟩
theorem DiskI.only {w w' : World} {q : Nat → Prop} {r g n k : Nat} {L : List UInt8} (h : DiskI w r g n k L) (ho : Only q w w') (h1 : ¬ q r) (h2 : ¬ q g) : DiskI w' r g n k L := ⟨h.b.only ho h1, h.s.only ho h2, h.l, h.ne, h.n0⟩
theorem DiskI.c0 {w : World} {r g n k : Nat} {L : List UInt8} (h : DiskI w r g n k L) : w.cell? ⟨r, 0, none⟩ = some (.slice (some ⟨g, 0, none⟩) n n) := h.b.c 0
theorem DiskI.c1 {w : World} {r g n k : Nat} {L : List UInt8} (h : DiskI w r g n k L) : w.cell? ⟨r, 1, none⟩ = some (.bool false) := h.b.c 1
theorem DiskI.c2 {w : World} {r g n k : Nat} {L : List UInt8} (h : DiskI w r g n k L) : w.cell? ⟨r, 2, none⟩ = some (.int .i64 (-1)) := h.b.c 2
theorem DiskI.c4 {w : World} {r g n k : Nat} {L : List UInt8} (h : DiskI w r g n k L) : w.cell? ⟨r, 4, none⟩ = some (.int .i64 (k : Int)) := h.b.c 4
theorem dSize_c (r g n k : Nat) (L : List UInt8) (w : World) (h : DiskI w r g n k L) : Calls Tryz.prog 66 #[rp r] w fun e w' => e = .returned (.int .i64 (n : Int)) ∧ w' = w := by
  have c0 := h.c0
  clear h
  go_enter Tryz.func66, Tryz.ntmps66
  go_wp2
  go_ret
  exact ⟨rfl, rfl⟩
theorem dMay_c (r g n k i : Nat) (L : List UInt8) (w : World) (h : DiskI w r g n k L) (hi : i < n) : Calls Tryz.prog 69 #[rp r, .int .i64 (i : Int)] w fun e w' => e = .returned (.int .i64 0) ∧ w' = w := by
  have c0 := h.c0
  have c1 := h.c1
  have k1 : ¬ ((i : Int) < 0) := by omega
  have k2 : ¬ ((n : Int) ≤ (i : Int)) := by omega
  have k3 : ¬ (n ≤ i) := by omega
  clear h
  go_enter Tryz.func69, Tryz.ntmps69
  go_wp2
  go_ret
  exact ⟨rfl, rfl⟩
def secF (L : List UInt8) (i : Nat) : List UInt8 := (L.drop (i * 64)).take 64
theorem secF_len (L : List UInt8) (i n : Nat) (h : L.length = 64 * n) (hi : i < n) : (secF L i).length = 64 := by unfold secF; rw [List.length_take, List.length_drop, h]; omega
set_option maxHeartbeats 4000000 in
theorem dRead_c (r g n k i : Nat) (L : List UInt8) (w : World) (h : DiskI w r g n k L) (hi : i < n) : Calls Tryz.prog 67 #[rp r, .int .i64 (i : Int)] w (OpenR w (secF L i)) := by
  have c0 := h.c0
  have H := Lib.hid (And.intro h hi)
  have hn := h.n0
  have k1 : (0 : Int) ≤ (i : Int) := by omega
  have k2 : (i : Int) < (n : Int) := by omega
  have hr : Rd w (· = g) (some ⟨g, i * 64, none⟩) (secF L i) := by
    have h1 := rd_drop (k := i * 64) (ArrB.rd h.s)
    rw [Nat.zero_add] at h1
    exact rd_take h1 64
  have hsl := secF_len L i n h.l hi
  clear h hi hn
  go_enter Tryz.func67, Tryz.ntmps67
  go_upto_region 4 with (go_at_call 69; apply Calls.mono; (· (with_reducible refine dMay_c r g n k i L _ ?_ ?_); (· exact H.out.1); (· exact H.out.2)); rintro e w1 ⟨rfl, hw⟩; rw [hw]; clear hw w1)
  go_wp2_with (go_at_call 109; apply Calls.mono; (· (with_reducible refine clone8_c (· = g) ⟨g, i * 64, none⟩ 64 64 (secF L i) _ ?_ ?_ ?_); (· exact hr); (· exact hsl); (· decide)); rintro e w2 ⟨p2, n2, c2, rfl, h2, x2, b2⟩)
  go_ret2
  exact ⟨p2, n2, c2, rfl, h2, x2, b2⟩
def wrF (L : List UInt8) (i : Nat) (b : List UInt8) : List UInt8 := splice L (i * 64) b
theorem splice_map (L b : List UInt8) (o : Nat) : splice (L.map B8) o (b.map B8) = (splice L o b).map B8 := by simp [splice]
/-- What Write tells. -/
def DwR (w : World) (r g n k : Nat) (L : List UInt8) (e : Ending) (w' : World) : Prop := e = .returned (.int .i64 0) ∧ DiskI w' r g n k L ∧ Only (fun x => x = r ∨ x = g) w w'
theorem Blk.set {w : World} {r t : Nat} {C : Array Value} (h : Blk w r t C) (o : Nat) (v : Value) : Blk (w.setCell ⟨r, o, none⟩ v) r t (C.setIfInBounds o v) := by
  unfold Blk at *; simp [World.setCell, Array.getElem?_modify, h]
theorem DiskI.set4 {w : World} {r g n k : Nat} {L : List UInt8} (h : DiskI w r g n k L) : DiskI (w.setCell ⟨r, 4, none⟩ (.int .i64 ((k : Int) + 1))) r g n (k + 1) L := by
  have h1 := h.b.set 4 (.int .i64 ((k : Int) + 1))
  exact ⟨h1, h.s.only ((Only.refl (fun x => x = r) w).setCell _ _ (.inl rfl)) (fun e => h.ne e.symm), h.l, h.ne, h.n0⟩
theorem DiskI.set2 {w : World} {r g n k : Nat} {L : List UInt8} (h : DiskI w r g n k L) : DiskI (w.setCell ⟨r, 2, none⟩ (.int .i64 (-1))) r g n k L := by
  have h1 := h.b.set 2 (.int .i64 (-1))
  exact ⟨h1, h.s.only ((Only.refl (fun x => x = r) w).setCell _ _ (.inl rfl)) (fun e => h.ne e.symm), h.l, h.ne, h.n0⟩
set_option maxHeartbeats 4000000 in
theorem dWrite_c (r g n k i : Nat) (L : List UInt8) (S : Nat → Prop) (q : Option Addr) (c : Nat) (b : List UInt8) (w : World) (h : DiskI w r g n k L) (hi : i < n) (hR : Rd w S q b) (hS : ∀ x, S x → x ≠ r ∧ x ≠ g) (hb : b.length = 64) (hk : k ≤ 1000000) :
    Calls Tryz.prog 35 #[rp r, .int .i64 (i : Int), .slice q 64 c] w (DwR w r g n (k + 1) (wrF L i b)) := by
  have c0 := h.c0
  have c2 := h.c2
  have c4 := h.c4
  have f4 := h.b.fr 4
  have f2 := h.b.fr 2
  have H := Lib.hid (And.intro h (And.intro hi (And.intro hR (And.intro hS (And.intro hb hk)))))
  have k1 : (0 : Int) ≤ (i : Int) := by omega
  have k2 : (i : Int) < (n : Int) := by omega
  have k3 : wrap64 ((k : Int) + 1) = (k : Int) + 1 := IntWalk.wrap64_in _ ⟨by omega, by omega⟩
  clear h hi hR hS hb hk
  go_enter Tryz.func35, Tryz.ntmps35
  go_upto_region 4 with (go_at_call 69; apply Calls.mono; (· (with_reducible refine dMay_c r g n k i L _ ?_ ?_); (· exact H.out.1); (· exact H.out.2.1)); rintro e w1 ⟨rfl, hw⟩; rw [hw]; clear hw w1)
  go_upto_region 12 with (fail)
  have hD := H.out.1.set4.set2
  have hO : Only (fun x => x = r ∨ x = g) w ((w.setCell ⟨r, 4, none⟩ (.int .i64 ((k : Int) + 1))).setCell ⟨r, 2, none⟩ (.int .i64 (-1))) := ((Only.refl (fun x => x = r ∨ x = g) w).setCell _ _ (.inl (.inl rfl))).setCell _ _ (.inl (.inl rfl))
  generalize (w.setCell ⟨r, 4, none⟩ (.int .i64 ((k : Int) + 1))).setCell ⟨r, 2, none⟩ (.int .i64 (-1)) = w2 at *
  clear c0 c2 c4 f4 f2
  have c0 := hD.c0
  have hr := H.out.2.2.1.only hO (fun x hx e => by have := H.out.2.2.2.1 x hx; omega)
  have hlb := H.out.2.2.2.2.1
  have hmn : (b.map B8).length = Nat.min 64 64 := by rw [List.length_map, hlb]; rfl
  have hft : i * 64 + (b.map B8).length ≤ (L.map B8).length := by rw [List.length_map, List.length_map, hlb, hD.l]; have := H.out.2.1; omega
  have HD := Lib.hid (And.intro hD hO)
  have hsg := hD.s
  clear hD hO
  obtain ⟨ad, rfl, hsrc⟩ := src8 hr (by rw [List.length_map, hlb]; omega)
  have hrow : (((L.map B8).toArray.toList.take (i * 64) ++ (b.map B8 ++ (L.map B8).toArray.toList.drop (i * 64 + (b.map B8).length))).toArray) = ((wrF L i b).map B8).toArray := by simp [wrF, splice]
  have hfit2 : i * 64 + (b.map B8).length ≤ (L.map B8).toArray.size := by rw [List.size_toArray]; exact hft
  go_upto_region 13 with (refine wpList_copy_own rfl (.tmp 63) (.tmp 64) 38 38 rfl 5 Tryz.underlying38 (by kernel_rfl) g (i * 64) 64 64 ad 64 c rfl rfl (L.map B8).toArray 142 hsg (b.map B8) hmn hsrc hfit2 (ones8 _) ?_; rw [hrow])
  have hA3 := hsg.setRow (wrF L i b)
  have hO3 := only_setRow' w2 g ((wrF L i b).map B8).toArray
  generalize w2.setRow g ((wrF L i b).map B8).toArray = w3 at *
  have hwl : (wrF L i b).length = 64 * n := by
    unfold wrF
    rw [length_splice _ _ _ (by rw [hlb, HD.out.1.l]; have := H.out.2.1; omega)]
    exact HD.out.1.l
  clear hsrc hrow hfit2 hft hmn hr c0 hsg
  go_wp2
  go_ret
  exact ⟨rfl, ⟨HD.out.1.b.only hO3 HD.out.1.ne, hA3, hwl, HD.out.1.ne, HD.out.1.n0⟩, HD.out.2.then (hO3.mono fun k _ e => .inr e)⟩
end Go.Proofs.YtolgaapiedbkfaaGreat
