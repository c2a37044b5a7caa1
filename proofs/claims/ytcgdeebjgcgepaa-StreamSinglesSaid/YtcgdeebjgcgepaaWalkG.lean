/-
  The document's All tells the records, what is left and the error, as the plain function does. Conditions: at most 2 to the 40th bytes.
-/
import Derived.Test.YtcgdeebjgcgepaaSpec
import Derived.Test.YtcgdeebjgcgepaaRows
namespace Go.Proofs.Ytcgdeebjgcgepaa
open Go.RowKit Go.Kx

theorem Try.info38 : (Try.prog.info? 38).map (fun i => (i.zero, i.size, i.bytes)) = some (some (.agg #[.int .i64 0, .slice none 0 0]), 2, 32) := by kernel_rfl

def sliceLen : Value → Nat | .slice _ n _ => n | _ => 0

/-- The relation of All's loop. -/
def AllInv (w : World) (S : Nat → Prop) (l0 : List UInt8) (l : List UInt8) (p : Option Addr) (v5 : Value) (wr : World) : Prop :=
  Rd wr S p l ∧ ∃ g done xs, w.heap.size ≤ g ∧ Row wr 38 2 g v5 done.length xs ∧ RecsAt wr S xs done ∧
    allS l0 = (done ++ (allS l).1, (allS l).2) ∧ done.length * 5 + l.length ≤ l0.length ∧ Only (fun _ => False) w wr
def AllRel (w : World) (S : Nat → Prop) (l0 : List UInt8) (v0 v5 : Value) (wr : World) : Prop :=
  ∃ l p c, v0 = .slice p l.length c ∧ l.length ≤ c ∧ c ≤ maxLen ∧ (p = none → c = 0) ∧ AllInv w S l0 l p v5 wr

/-- What All leaves. -/
def AllR (w : World) (S : Nat → Prop) (l0 : List UInt8) (e : Ending) (w' : World) : Prop :=
  ∃ p c g v5 xs, e = .returned (.tuple #[v5, .slice p (allS l0).2.1.length c, .int .i64 (allS l0).2.2]) ∧ (p = none → c = 0) ∧ Rd w' S p (allS l0).2.1 ∧ w.heap.size ≤ g ∧
    Row w' 38 2 g v5 (allS l0).1.length xs ∧ RecsAt w' S xs (allS l0).1 ∧ (allS l0).1.length * 5 ≤ l0.length ∧ (allS l0).2.1.length ≤ l0.length ∧ Below w.heap.size w w'

theorem AllInv.drewN {w wr : World} {S : Nat → Prop} {l0 l : List UInt8} {p : Option Addr} {v5 : Value} (n : Nat) (h : AllInv w S l0 l p v5 wr) : AllInv w S l0 l p v5 (wr.drewN n) := by
  obtain ⟨h4, g, done, xs, h5, h6, h7, h8, h9, h10⟩ := h
  exact ⟨h4.kept (fun _ _ _ => rfl), g, done, xs, h5, h6.kept (fun _ => rfl), RecsAt.kept (fun {p l} (h : Rd wr S p l) => (h.kept (fun _ _ _ => rfl) : Rd (wr.drewN n) S p l)) h7, h8, h9, h10.drewN n⟩

theorem all_done {w wr : World} {S : Nat → Prop} {l0 l : List UInt8} {p : Option Addr} {c m : Nat} {v5 : Value} {E : Int} (hp : p = none → c = 0) (hI : AllInv w S l0 l p v5 wr) (ht : takeS l = (E, none)) (hm : l.length = m) :
    AllR w S l0 (.returned (.tuple #[v5, .slice p m c, .int .i64 E])) wr := by
  subst hm
  obtain ⟨h4, g, done, xs, h5, h6, h7, h8, h9, h10⟩ := hI
  rw [allS_none ht] at h8
  simp only [List.append_nil] at h8
  refine ⟨p, c, g, v5, xs, ?_, hp, ?_, h5, ?_, ?_, ?_, ?_, h10.below (Nat.le_refl _) (fun _ _ h => h)⟩
  all_goals rw [h8]
  all_goals (first | rfl | assumption | (simp only; omega))

theorem two_cells (w : World) (x y : Value) (t : TypeId) : ∀ j u, [x, y][j]? = some u → (w.alloc (.cells #[x, y] t)).cell? ((⟨w.heap.size, 0, none⟩ : Addr).add j) = some u := by
  intro j u h
  match j, h with
  | 0, h => simp at h; subst h; exact (World.cell?_alloc_at _ _ _ _ rfl).trans rfl
  | 1, h => simp at h; subst h; exact (World.cell?_alloc_at _ _ _ _ rfl).trans rfl

theorem all_step {w wr w' : World} {S : Nat → Prop} {l0 l r : List UInt8} {a : UInt8} {N g g' n2 m : Nat} {v' : Value} {done : List (UInt8 × List UInt8)} {xs : List Value} {p5 p2 : Option Addr} {c5 c2 : Nat} {ob : Obj}
    (hsub : ∀ k, S k → k < w.heap.size) (k5 : w.heap.size ≤ g) (k7 : RecsAt wr S xs done) (k8 : allS l0 = (done ++ (allS l).1, (allS l).2)) (k9 : done.length * 5 + l.length ≤ l0.length) (k10 : Only (fun _ => False) w wr)
    (ht : takeS l = (0, some (a, r.take N, r.drop N))) (hN : N ≤ r.length) (hO : Only (· = g) ((wr.drewN m).alloc ob) w') (hrow : Row w' 38 2 g' v' (done.length + 1) (xs ++ [.int .i64 (a.toNat : Int), .slice p5 N c5])) (hg' : g' = g ∨ g' = wr.heap.size + 1)
    (h5 : Rd wr S p5 (r.take N)) (h5n : p5 = none → c5 = 0) (h2 : Rd wr S p2 (r.drop N)) (h2n : p2 = none → c2 = 0) (hn2 : (r.drop N).length = n2) (h2c : n2 ≤ c2) (h2m : c2 ≤ maxLen) : AllRel w S l0 (.slice p2 n2 c2) v' w' := by
  subst hn2
  have hO' : Only (· = g) wr w' := ((Only.refl (· = g) wr).drewN m |>.alloc ob).then hO
  have hkk : ∀ {p : Option Addr} {l : List UInt8}, Rd wr S p l → Rd w' S p l := fun h => h.only hO' (fun k hk e => by have := hsub k hk; omega)
  have hl := takeS_lt ht
  have hs := k10.size
  refine ⟨r.drop N, p2, c2, rfl, h2c, h2m, h2n, hkk h2, g', done ++ [(a, r.take N)], _, by omega, by simpa using hrow, ?_, ?_, ?_, k10.trans hO' (fun _ h => h) (fun x hx e => by omega)⟩
  · have := RecsAt.snoc (kb := a) h5n (hkk h5) (RecsAt.kept hkk k7)
    rwa [show (r.take N).length = N by rw [List.length_take]; omega] at this
  · rw [k8, allS_some ht]; simp
  · simp only [List.length_append, List.length_cons, List.length_nil]; omega

theorem beganS_two (a b : UInt8) (t : List UInt8) : beganS (a :: b :: t) = decide ((20 ≤ a.toNat ∧ a.toNat ≤ 23) ∧ b.toNat = 3) := by cases t <;> rfl
theorem takeS_form (a b : UInt8) (t : List UInt8) (h : beganS (a :: b :: t) = false) : takeS (a :: b :: t) = (3, none) := by
  match t with
  | [] => rw [takeS_short (by simp), if_pos h]
  | [_] => rw [takeS_short (by simp), if_pos h]
  | [_, _] => rw [takeS_short (by simp), if_pos h]
  | x :: y :: z :: r => simp only [takeS]; rw [if_pos h]


set_option maxHeartbeats 1000000 in
set_option maxRecDepth 100000 in
theorem all_c (S : Nat → Prop) (p : Option Addr) (n c : Nat) (l0 : List UInt8) (w : World) (hsub : ∀ k, S k → k < w.heap.size) (hn : Rd w S p l0) (hp : p = none → c = 0) (hl : l0.length ≤ 1099511627776) (hnl : l0.length = n) (hnc : n ≤ c) (hcm : c ≤ maxLen) :
    Calls Try.prog 10 #[.slice p n c] w (AllR w S l0) := by
  subst hnl
  go_enter Try.func10, Try.ntmps10
  go_wp2
  go_loopw [0, 5] (fun v0 v5 wr => AllRel w S l0 v0 v5 wr) (fun v0 _ _ => sliceLen v0)
  case atStart => exact ⟨l0, p, c, rfl, hnc, hcm, hp, hn, w.heap.size, [], [], Nat.le_refl _, Row.nil _ _ _ _, trivial, by simp, by simp, Only.refl _ _⟩
  case round =>
    clear hp hn hnc hcm
    obtain ⟨l, p, c, rfl, h1, h2, h3, hI⟩ := hrel
    have hll : l.length ≤ l0.length := by obtain ⟨_, _, _, _, _, _, _, _, h, _⟩ := hI; omega
    unfold maxLen at h2
    have HI := Lib.hid hI
    have HP := Lib.hid h3
    clear h3
    match l, hI with
    | [], hI =>
      clear hI
      go_wp2
      exact bodyPost_ret (v := .tuple #[u5, .slice p 0 c, .int .i64 0]) (by simp [results, Try.results10, go_sem]) rfl (all_done HP.out HI.out rfl rfl)
    | [a], hI =>
      obtain ⟨b, o, rfl, _, hlt, hat⟩ := hI.1.at (by simp)
      have d0 := hat 0 (by simp)
      clear hat hI
      simp at d0 h1
      by_cases ha : (a.toNat : Int) < 20
      · go_wp2
        exact bodyPost_ret (v := .tuple #[u5, .slice (some ⟨b, o, none⟩) 1 c, .int .i64 3]) (by simp [results, Try.results10, go_sem]) rfl (all_done HP.out HI.out (by rw [takeS_short (by simp), if_pos (by simp [beganS]; omega)]) rfl)
      · by_cases ha2 : (23 : Int) < (a.toNat : Int)
        · go_wp2
          exact bodyPost_ret (v := .tuple #[u5, .slice (some ⟨b, o, none⟩) 1 c, .int .i64 3]) (by simp [results, Try.results10, go_sem]) rfl (all_done HP.out HI.out (by rw [takeS_short (by simp), if_pos (by simp [beganS]; omega)]) rfl)
        · go_wp2
          exact bodyPost_ret (v := .tuple #[u5, .slice (some ⟨b, o, none⟩) 1 c, .int .i64 0]) (by simp [results, Try.results10, go_sem]) rfl (all_done HP.out HI.out (by rw [takeS_short (by simp), if_neg (by simp [beganS]; omega)]) rfl)
    | a :: b :: t, hI =>
      obtain ⟨g0, o, rfl, hS, hlt, hat⟩ := hI.1.at (by simp)
      have d0 := hat 0 (by simp)
      have d1 := hat 1 (by simp)
      simp at d0 d1 h1 hll
      by_cases ha : (a.toNat : Int) < 20
      · clear hat hI
        go_wp2
        exact bodyPost_ret (v := .tuple #[u5, .slice (some ⟨g0, o, none⟩) (t.length + 1 + 1) c, .int .i64 3]) (by simp [results, Try.results10, go_sem]) rfl (all_done HP.out HI.out (takeS_form _ _ _ (by rw [beganS_two]; simp; omega)) rfl)
      by_cases ha2 : (23 : Int) < (a.toNat : Int)
      · clear hat hI
        go_wp2
        exact bodyPost_ret (v := .tuple #[u5, .slice (some ⟨g0, o, none⟩) (t.length + 1 + 1) c, .int .i64 3]) (by simp [results, Try.results10, go_sem]) rfl (all_done HP.out HI.out (takeS_form _ _ _ (by rw [beganS_two]; simp; omega)) rfl)
      by_cases hb3 : (b.toNat : Int) = 3
      case neg =>
        have hb : ((b.toNat : Int) != 3) = true := by simpa using hb3
        clear hat hI hb3
        go_wp2
        exact bodyPost_ret (v := .tuple #[u5, .slice (some ⟨g0, o, none⟩) (t.length + 1 + 1) c, .int .i64 3]) (by simp [results, Try.results10, go_sem]) rfl (all_done HP.out HI.out (takeS_form _ _ _ (by rw [beganS_two]; simp at hb; simp; omega)) rfl)
      have hb : ((b.toNat : Int) != 3) = false := by simpa using hb3
      have HB : RowKit.Hid (b.toNat = 3) := by show b.toNat = 3; omega
      clear hb3
      by_cases h5 : t.length < 3
      · clear hat hI
        go_wp2
        exact bodyPost_ret (v := .tuple #[u5, .slice (some ⟨g0, o, none⟩) (t.length + 1 + 1) c, .int .i64 0]) (by simp [results, Try.results10, go_sem]) rfl (all_done HP.out HI.out (by rw [takeS_short (by simp; omega), if_neg (by rw [beganS_two]; have := HB.out; simp; omega)]) rfl)
      match t, h5, hI with
      | [], h5, _ => simp at h5
      | [_], h5, _ => simp at h5
      | [_, _], h5, _ => simp at h5
      | x :: a3 :: a4 :: r, h5, hI =>
      have d3 := hat 3 (by simp)
      have d4 := hat 4 (by simp)
      clear h5 hat hI
      simp at d3 d4 h1 hll
      have b3 := a3.toNat_lt
      have b4 := a4.toNat_lt
      have hN : IntKind.i64.wrap (IntKind.i64.wrap (IntKind.i64.wrap (a3.toNat : Int) * 256) + IntKind.i64.wrap (a4.toNat : Int)) = ((a3.toNat * 256 + a4.toNat : Nat) : Int) := by
        rw [IntWalk.i64_in (a3.toNat : Int) ⟨by omega, by omega⟩, IntWalk.i64_in (a4.toNat : Int) ⟨by omega, by omega⟩, IntWalk.i64_in ((a3.toNat : Int) * 256) ⟨by omega, by omega⟩, IntWalk.i64_in _ ⟨by omega, by omega⟩]; omega
      have HN := Lib.hid hN
      clear hN
      go_wp2
      go_quiet (fail)
      rw [show ((a3.toNat : Int) * 256 + (a4.toNat : Int)) = ((a3.toNat * 256 + a4.toNat : Nat) : Int) from by omega]
      obtain ⟨N, hNN⟩ : ∃ N, N = a3.toNat * 256 + a4.toNat := ⟨_, rfl⟩
      rw [← hNN]
      have HNN := Lib.hid hNN
      have hN1 : N ≤ 65535 := by omega
      clear hNN HN
      by_cases hbig : 273 < (N : Int)
      · go_wp2
        exact bodyPost_ret (v := .tuple #[u5, .slice (some ⟨g0, o, none⟩) (r.length + 1 + 1 + 1 + 1 + 1) c, .int .i64 5]) (by simp [results, Try.results10, go_sem]) rfl (all_done HP.out (HI.out.drewN _) (by have hNN := HNN.out; simp only [takeS]; rw [if_neg (by rw [beganS_two]; have := HB.out; simp; omega), if_pos (by rw [← hNN]; unfold mostS; split <;> omega)]) rfl)
      by_cases ha23 : (a.toNat : Int) = 23
      case neg =>
        have hx : ((a.toNat : Int) != 23) = true := by simpa using ha23
        have HA : RowKit.Hid (¬ a.toNat = 23) := by show ¬ a.toNat = 23; omega
        clear ha23
        by_cases hmid : 256 < (N : Int)
        · go_wp2
          exact bodyPost_ret (v := .tuple #[u5, .slice (some ⟨g0, o, none⟩) (r.length + 1 + 1 + 1 + 1 + 1) c, .int .i64 5]) (by simp [results, Try.results10, go_sem]) rfl (all_done HP.out (HI.out.drewN _) (by have hNN := HNN.out; simp only [takeS]; rw [if_neg (by rw [beganS_two]; have := HB.out; simp; omega), if_pos (by rw [← hNN]; unfold mostS; rw [if_neg HA.out]; omega)]) rfl)
        by_cases hs : r.length < N
        · go_wp2
          exact bodyPost_ret (v := .tuple #[u5, .slice (some ⟨g0, o, none⟩) (r.length + 1 + 1 + 1 + 1 + 1) c, .int .i64 0]) (by simp [results, Try.results10, go_sem]) rfl (all_done HP.out (HI.out.drewN _) (by have hNN := HNN.out; simp only [takeS]; rw [if_neg (by rw [beganS_two]; have := HB.out; simp; omega), if_neg (by rw [← hNN]; unfold mostS; rw [if_neg HA.out]; omega), if_pos (by rw [← hNN]; exact hs)]) rfl)
        have HT : RowKit.Hid (takeS (a :: b :: x :: a3 :: a4 :: r) = (0, some (a, r.take N, r.drop N))) := by
          have hNN := HNN.out
          show takeS _ = _
          simp only [takeS]
          rw [if_neg (by rw [beganS_two]; have := HB.out; simp; omega), if_neg (by rw [← hNN]; unfold mostS; rw [if_neg HA.out]; omega), if_neg (by rw [← hNN]; exact hs), ← hNN]
        clear HNN HB HA
        have i1 : (5 : Int) + (N : Int) ≤ (c : Int) := by omega
        have i2 : (0 : Int) ≤ 5 + (N : Int) := by omega
        have i3 : (5 : Int) ≤ 5 + (N : Int) := by omega
        have i4 : IntKind.i64.wrap (5 + (N : Int)) = 5 + (N : Int) := IntWalk.i64_in _ ⟨by omega, by omega⟩
        have i5 : ((5 : Int) + (N : Int)).toNat = 5 + N := by omega
        have i6 : IntKind.i64.wrap (a.toNat : Int) = a.toNat := IntWalk.i64_in _ ⟨by omega, by omega⟩
        by_cases hc5 : c = 5
        · subst hc5
          obtain rfl : N = 0 := by omega
          obtain rfl : r = [] := List.eq_nil_of_length_eq_zero (by omega)
          have i7 : IntKind.i64.wrap (5 : Int) = 5 := by decide
          simp only [List.length_nil, Nat.zero_add] at h1 hll
          obtain ⟨_, g, done, xs, k5, k6, k7, k8, k9, k10⟩ := HI.out
          have kr := k10.size
          have K9 := Lib.hid k9
          have hdl : done.length * 5 + 5 ≤ l0.length := by have := K9.out; simp at this; omega
          have k6' : Row ((wr.drewN (nq + 1)).alloc (.cells #[.int .i64 (a.toNat : Int), .slice (some ⟨g0, o, none⟩) 0 0] 38)) 38 2 g u5 done.length xs := k6.only (Only.alloc (Only.drewN _ (Only.refl (fun _ => False) wr)) _) (fun h => h)
          have K6 := Lib.hid k6'
          have K7 := Lib.hid k7
          have K8 := Lib.hid k8
          have K10 := Lib.hid k10
          clear k6 k6' k7 k8 k9 k10
          go_wp2
          go_region_law ((refine step_append_row rfl _ _ 32 rfl 38 (.agg #[.int .i64 0, .slice none 0 0]) 2 32 Try.underlying32 Try.info38 rfl (by decide) g u5 done.length xs (by simp [Act.eval]) K6.out ⟨wr.heap.size, 0, none⟩ 1 1 [.int .i64 (a.toNat : Int), .slice (some ⟨g0, o, none⟩) 0 0] (by simp [Act.eval]) rfl (two_cells _ _ _ _) (by simp [Value.oneCell']) (by simp only [maxLen]; omega) (by omega) (wr.heap.size + 1) (by simp) ?_; intro g' v' w' hrow hg' hO'))
          have HR := Lib.hid hrow
          have HG := Lib.hid hg'
          have HO := Lib.hid hO'
          clear hrow hg' hO'
          go_wp2
          go_roundw
          case rel =>
            refine all_step (p5 := some ⟨g0, o, none⟩) hsub k5 K7.out K8.out K9.out K10.out HT.out (by omega) HO.out HR.out HG.out ?_ (by intro h; cases h) ?_ (by intro h; cases h) rfl (by omega) (by unfold maxLen; omega)
            · exact Rd.nil _ _ _
            · exact Rd.nil _ _ _
          case measure => simp only [sliceLen, List.length_cons]; omega
        obtain ⟨_, g, done, xs, k5, k6, k7, k8, k9, k10⟩ := HI.out
        have kr := k10.size
        have K9 := Lib.hid k9
        have hdl : done.length * 5 + r.length + 5 ≤ l0.length := by have := K9.out; simp at this; omega
        have k6' : Row ((wr.drewN (nq + 1)).alloc (.cells #[.int .i64 (a.toNat : Int), .slice (some ⟨g0, o + 5, none⟩) N (c - 5)] 38)) 38 2 g u5 done.length xs := k6.only (Only.alloc (Only.drewN _ (Only.refl (fun _ => False) wr)) _) (fun h => h)
        have K6 := Lib.hid k6'
        have K7 := Lib.hid k7
        have K8 := Lib.hid k8
        have K10 := Lib.hid k10
        clear k6 k6' k7 k8 k9 k10
        go_wp2
        go_region_law ((refine step_append_row rfl _ _ 32 rfl 38 (.agg #[.int .i64 0, .slice none 0 0]) 2 32 Try.underlying32 Try.info38 rfl (by decide) g u5 done.length xs (by simp [Act.eval]) K6.out ⟨wr.heap.size, 0, none⟩ 1 1 [.int .i64 (a.toNat : Int), .slice (some ⟨g0, o + 5, none⟩) N (c - 5)] (by simp [Act.eval]) rfl (two_cells _ _ _ _) (by simp [Value.oneCell']) (by simp only [maxLen]; omega) (by omega) (wr.heap.size + 1) (by simp) ?_; intro g' v' w' hrow hg' hO'))
        have HR := Lib.hid hrow
        have HG := Lib.hid hg'
        have HO := Lib.hid hO'
        clear hrow hg' hO'
        go_wp2
        go_roundw
        case rel =>
          refine all_step (p5 := some ⟨g0, o + 5, none⟩) hsub k5 K7.out K8.out K9.out K10.out HT.out (by omega) HO.out HR.out HG.out ?_ (by intro h; cases h) ?_ (by split <;> (intro h; cases h)) (by rw [List.length_drop]; omega) (by omega) (by unfold maxLen; omega)
          · exact (Rd.drop 5 HI.out.1).take N
          · split
            · rw [show r.drop N = [] from by rw [List.drop_eq_nil_iff]; omega]; exact Rd.nil _ _ _
            · have h := Rd.drop (5 + N) HI.out.1
              rwa [show (a :: b :: x :: a3 :: a4 :: r).drop (5 + N) = r.drop N from by rw [show 5 + N = N + 5 by omega]; rfl] at h
        case measure => simp only [sliceLen, List.length_cons]; omega
      have hx : ((a.toNat : Int) != 23) = false := by simpa using ha23
      have HA : RowKit.Hid (a.toNat = 23) := by show a.toNat = 23; omega
      clear ha23
      by_cases hs : r.length < N
      · by_cases hmid : 256 < (N : Int)
        all_goals
          go_wp2
          exact bodyPost_ret (v := .tuple #[u5, .slice (some ⟨g0, o, none⟩) (r.length + 1 + 1 + 1 + 1 + 1) c, .int .i64 0]) (by simp [results, Try.results10, go_sem]) rfl (all_done HP.out (HI.out.drewN _) (by have hNN := HNN.out; simp only [takeS]; rw [if_neg (by rw [beganS_two]; have := HB.out; simp; omega), if_neg (by rw [← hNN]; unfold mostS; rw [if_pos HA.out]; omega), if_pos (by rw [← hNN]; exact hs)]) rfl)
      have HT : RowKit.Hid (takeS (a :: b :: x :: a3 :: a4 :: r) = (0, some (a, r.take N, r.drop N))) := by
        have hNN := HNN.out
        show takeS _ = _
        simp only [takeS]
        rw [if_neg (by rw [beganS_two]; have := HB.out; simp; omega), if_neg (by rw [← hNN]; unfold mostS; rw [if_pos HA.out]; omega), if_neg (by rw [← hNN]; exact hs), ← hNN]
      by_cases hmid : 256 < (N : Int)
      all_goals
        clear HNN HB HA
        have i1 : (5 : Int) + (N : Int) ≤ (c : Int) := by omega
        have i2 : (0 : Int) ≤ 5 + (N : Int) := by omega
        have i3 : (5 : Int) ≤ 5 + (N : Int) := by omega
        have i4 : IntKind.i64.wrap (5 + (N : Int)) = 5 + (N : Int) := IntWalk.i64_in _ ⟨by omega, by omega⟩
        have i5 : ((5 : Int) + (N : Int)).toNat = 5 + N := by omega
        have i6 : IntKind.i64.wrap (a.toNat : Int) = a.toNat := IntWalk.i64_in _ ⟨by omega, by omega⟩
        by_cases hc5 : c = 5
        · subst hc5
          obtain rfl : N = 0 := by omega
          obtain rfl : r = [] := List.eq_nil_of_length_eq_zero (by omega)
          have i7 : IntKind.i64.wrap (5 : Int) = 5 := by decide
          simp only [List.length_nil, Nat.zero_add] at h1 hll
          obtain ⟨_, g, done, xs, k5, k6, k7, k8, k9, k10⟩ := HI.out
          have kr := k10.size
          have K9 := Lib.hid k9
          have hdl : done.length * 5 + 5 ≤ l0.length := by have := K9.out; simp at this; omega
          have k6' : Row ((wr.drewN (nq + 1)).alloc (.cells #[.int .i64 (a.toNat : Int), .slice (some ⟨g0, o, none⟩) 0 0] 38)) 38 2 g u5 done.length xs := k6.only (Only.alloc (Only.drewN _ (Only.refl (fun _ => False) wr)) _) (fun h => h)
          have K6 := Lib.hid k6'
          have K7 := Lib.hid k7
          have K8 := Lib.hid k8
          have K10 := Lib.hid k10
          clear k6 k6' k7 k8 k9 k10
          go_wp2
          go_region_law ((refine step_append_row rfl _ _ 32 rfl 38 (.agg #[.int .i64 0, .slice none 0 0]) 2 32 Try.underlying32 Try.info38 rfl (by decide) g u5 done.length xs (by simp [Act.eval]) K6.out ⟨wr.heap.size, 0, none⟩ 1 1 [.int .i64 (a.toNat : Int), .slice (some ⟨g0, o, none⟩) 0 0] (by simp [Act.eval]) rfl (two_cells _ _ _ _) (by simp [Value.oneCell']) (by simp only [maxLen]; omega) (by omega) (wr.heap.size + 1) (by simp) ?_; intro g' v' w' hrow hg' hO'))
          have HR := Lib.hid hrow
          have HG := Lib.hid hg'
          have HO := Lib.hid hO'
          clear hrow hg' hO'
          go_wp2
          go_roundw
          case rel =>
            refine all_step (p5 := some ⟨g0, o, none⟩) hsub k5 K7.out K8.out K9.out K10.out HT.out (by omega) HO.out HR.out HG.out ?_ (by intro h; cases h) ?_ (by intro h; cases h) rfl (by omega) (by unfold maxLen; omega)
            · exact Rd.nil _ _ _
            · exact Rd.nil _ _ _
          case measure => simp only [sliceLen, List.length_cons]; omega
        obtain ⟨_, g, done, xs, k5, k6, k7, k8, k9, k10⟩ := HI.out
        have kr := k10.size
        have K9 := Lib.hid k9
        have hdl : done.length * 5 + r.length + 5 ≤ l0.length := by have := K9.out; simp at this; omega
        have k6' : Row ((wr.drewN (nq + 1)).alloc (.cells #[.int .i64 (a.toNat : Int), .slice (some ⟨g0, o + 5, none⟩) N (c - 5)] 38)) 38 2 g u5 done.length xs := k6.only (Only.alloc (Only.drewN _ (Only.refl (fun _ => False) wr)) _) (fun h => h)
        have K6 := Lib.hid k6'
        have K7 := Lib.hid k7
        have K8 := Lib.hid k8
        have K10 := Lib.hid k10
        clear k6 k6' k7 k8 k9 k10
        go_wp2
        go_region_law ((refine step_append_row rfl _ _ 32 rfl 38 (.agg #[.int .i64 0, .slice none 0 0]) 2 32 Try.underlying32 Try.info38 rfl (by decide) g u5 done.length xs (by simp [Act.eval]) K6.out ⟨wr.heap.size, 0, none⟩ 1 1 [.int .i64 (a.toNat : Int), .slice (some ⟨g0, o + 5, none⟩) N (c - 5)] (by simp [Act.eval]) rfl (two_cells _ _ _ _) (by simp [Value.oneCell']) (by simp only [maxLen]; omega) (by omega) (wr.heap.size + 1) (by simp) ?_; intro g' v' w' hrow hg' hO'))
        have HR := Lib.hid hrow
        have HG := Lib.hid hg'
        have HO := Lib.hid hO'
        clear hrow hg' hO'
        go_wp2
        go_roundw
        case rel =>
          refine all_step (p5 := some ⟨g0, o + 5, none⟩) hsub k5 K7.out K8.out K9.out K10.out HT.out (by omega) HO.out HR.out HG.out ?_ (by intro h; cases h) ?_ (by split <;> (intro h; cases h)) (by rw [List.length_drop]; omega) (by omega) (by unfold maxLen; omega)
          · exact (Rd.drop 5 HI.out.1).take N
          · split
            · rw [show r.drop N = [] from by rw [List.drop_eq_nil_iff]; omega]; exact Rd.nil _ _ _
            · have h := Rd.drop (5 + N) HI.out.1
              rwa [show (a :: b :: x :: a3 :: a4 :: r).drop (5 + N) = r.drop N from by rw [show 5 + N = N + 5 by omega]; rfl] at h
        case measure => simp only [sliceLen, List.length_cons]; omega
end Go.Proofs.Ytcgdeebjgcgepaa
