/-
  Package addrs: Places and Back; the law's own small functions.
-/
import Derived.Test.YtafmkalepgcnkaaNew
namespace Go.Proofs.Ytafmkalepgcnkaa
open Go.RowKit

theorem Try.info40 : (Try.prog.info? 40).map (fun i => (i.zero, i.size, i.bytes)) = some (some (.agg #[.int .i64 0, .int .i64 0]), 2, 16) := by kernel_rfl

theorem back_any (a b : Int) (w : World) : Calls Try.prog 24 #[.agg #[.int .i64 a, .int .i64 b]] w fun e w' => e = .returned (.agg #[.int .i64 b, .int .i64 a]) ∧ Below w.heap.size w w' := by
  go_enter Try.func24, Try.ntmps24
  go_wp2
  go_returns
  refine ⟨rfl, ?_⟩
  go_grown

/-- Pairs of integers, as the cells that hold them. -/
def pairV (l : List (Int × Int)) : List Value := l.flatMap fun p => [.int .i64 p.1, .int .i64 p.2]
theorem pairV_append (a b : List (Int × Int)) : pairV (a ++ b) = pairV a ++ pairV b := by simp [pairV]
theorem pairV_length (l : List (Int × Int)) : (pairV l).length = l.length * 2 := by
  induction l with
  | nil => rfl
  | cons p l ih => simp only [pairV, List.flatMap_cons, List.length_append, List.length_cons, List.length_nil] at ih ⊢; omega
/-- Each of the first k with each of the others. -/
def rows (A B : List Int) (k : Nat) : List (Int × Int) := (A.take k).flatMap fun a => B.map fun b => (a, b)
def rowsIn (A B : List Int) (k j : Nat) : List (Int × Int) := rows A B k ++ (B.take j).map fun b => (A[k]?.getD 0, b)
theorem rows_succ (A B : List Int) (k : Nat) (hk : k < A.length) : rowsIn A B k B.length = rows A B (k + 1) := by
  unfold rowsIn rows
  rw [List.take_length, List.take_add_one, List.getElem?_eq_getElem hk, List.flatMap_append]
  simp
theorem rowsIn_zero (A B : List Int) (k : Nat) : rowsIn A B k 0 = rows A B k := by simp [rowsIn]
theorem rowsIn_succ (A B : List Int) (k j : Nat) (hj : j < B.length) : rowsIn A B k (j + 1) = rowsIn A B k j ++ [(A[k]?.getD 0, B[j]?.getD 0)] := by
  unfold rowsIn
  rw [List.take_add_one, List.getElem?_eq_getElem hj, List.map_append, ← List.append_assoc]; rfl
theorem rows_length (A B : List Int) (k : Nat) : (rows A B k).length = min k A.length * B.length := by
  unfold rows
  rw [List.length_flatMap]
  have h : ∀ l : List Int, (l.map fun _ => B.length).sum = l.length * B.length := by
    intro l; induction l with
    | nil => simp
    | cons a l ih => rw [List.map_cons, List.sum_cons, ih, List.length_cons, Nat.succ_mul, Nat.add_comm]
  simp only [List.length_map]
  rw [h, List.length_take]
theorem rowsIn_length (A B : List Int) (k j : Nat) : (rowsIn A B k j).length = min k A.length * B.length + min j B.length := by
  unfold rowsIn; rw [List.length_append, rows_length, List.length_map, List.length_take]

/-- What Places leaves. -/
def PlacesPost (l : List (Int × Int)) (w : World) (e : Ending) (w' : World) : Prop :=
  ∃ (g : Option Addr) (cap : Nat), e = .returned (.slice g l.length cap) ∧ w'.ownsRow w.heap.size 40 2 (.slice g l.length cap) l.length (pairV l) ∧ Below w.heap.size w w'

theorem places_post {l : List (Int × Int)} {w w' : World} {v : Value} {n : Nat} (hn : n = l.length) (hown : w'.ownsRow w.heap.size 40 2 v n (pairV l)) (hnx : Below w.heap.size w w') : PlacesPost l w (.returned v) w' := by
  subst hn
  rcases hown.2 with ⟨rfl, h0⟩ | ⟨g, cap, cur, rfl, h⟩
  · exact ⟨none, 0, by rw [h0], by rw [h0] at hown ⊢; exact hown, hnx⟩
  · exact ⟨_, cap, rfl, hown, hnx⟩

theorem pair_snoc {B n : Nat} {l : List (Int × Int)} {x y : Int} {w wr w1 : World} {v v' : Value} {o : Obj} (hB : B ≤ wr.heap.size)
    (hown : wr.ownsRow B 40 2 v n (pairV l)) (hnx : Below B w wr)
    (hown' : w1.ownsRow B 40 2 v' (n + 1) (pairV l ++ [.int .i64 x, .int .i64 y])) (hgrow : (wr.alloc o).grownBy w1 v.ownBlock) :
    w1.ownsRow B 40 2 v' (n + 1) (pairV (l ++ [(x, y)])) ∧ Below B w w1 := by
  refine ⟨by rw [pairV_append]; exact hown', (hnx.alloc hB o).grown hgrow (by simp; omega) (fun j hj => (hown.lt j hj).1)⟩

/-- What is owned from a base on is owned still behind a call that leaves all from another base on. -/
theorem owns_below {w w' : World} {B e size n : Nat} {v : Value} {xs : List Value} (h : w.ownsRow B e size v n xs) (hb : Below w.heap.size w w') : w'.ownsRow B e size v n xs :=
  h.kept (row := none) ⟨hb.os, hb.tape, hb.output, hb.size, fun k hk _ => hb.block k hk⟩ (by cases hv : v.ownBlock <;> simp)

/-- A list of integers of the call's own can be read. -/
def Row3 (w : World) (g : Option Addr) (xs : List Int) : Prop :=
  xs = [] ∨ ∃ b cur, g = some ⟨b, 0, none⟩ ∧ w.heap[b]? = some (.cells cur 3 (0, 0)) ∧ ∀ j, j < xs.length → cur[j]? = some (.int .i64 (xs[j]?.getD 0))

theorem Row3.of {w : World} {B n cap : Nat} {g : Option Addr} {xs : List Int} (h : w.ownsRow B 3 1 (.slice g n cap) n (xs.map (Value.int .i64))) : Row3 w g xs := by
  rcases h.2 with ⟨hv, hn⟩ | ⟨b, cap', cur, hv, hb, hg, rest⟩
  · left
    have := h.1
    subst hn
    simpa using this
  · right
    simp only [Value.slice.injEq] at hv
    obtain ⟨rfl, _, rfl⟩ := hv
    refine ⟨b, cur, rfl, hg, fun j hj => ?_⟩
    have := h.cells (g := b) rfl j (.int .i64 (xs[j]?.getD 0)) (by simp [List.getElem?_eq_getElem hj])
    rw [Addr.add_lit, cell_of_row _ _ _ _ _ _ hg] at this
    simpa using this
theorem Row3.later {w w' : World} {g : Option Addr} {xs : List Int} (h : Row3 w g xs) (hb : Below w.heap.size w w') : Row3 w' g xs := by
  rcases h with h | ⟨b, cur, rfl, hh, hc⟩
  · exact .inl h
  · exact .inr ⟨b, cur, rfl, (hb.block b (lt_block hh)).trans hh, hc⟩
theorem Row3.get {w : World} {g : Option Addr} {xs : List Int} (h : Row3 w g xs) {k : Nat} (hk : k < xs.length) : ∃ b, g = some ⟨b, 0, none⟩ ∧ w.cell? ⟨b, k, none⟩ = some (.int .i64 (xs[k]?.getD 0)) := by
  rcases h with h | ⟨b, cur, hg, hh, hc⟩
  · rw [h] at hk; exact absurd hk (by simp)
  · exact ⟨b, hg, by rw [cell_of_row _ _ _ _ _ _ hh]; exact hc k hk⟩
/-- An append to a list of another type leaves it. -/
theorem Row3.append {w w1 : World} {g : Option Addr} {xs : List Int} {B n : Nat} {v : Value} {ys : List Value} {o : Obj} (h : Row3 w g xs) (hown : w.ownsRow B 40 2 v n ys) (hgrow : (w.alloc o).grownBy w1 v.ownBlock) : Row3 w1 g xs := by
  rcases h with h | ⟨b, cur, rfl, hh, hc⟩
  · exact .inl h
  · refine .inr ⟨b, cur, rfl, ?_, hc⟩
    have hlt := lt_block hh
    rw [hgrow.block b (by simp; omega) ?_, Below.heap_alloc _ _ _ hlt]; exact hh
    rcases hown.2 with ⟨rfl, _⟩ | ⟨g', cap', cur', rfl, _, hg', _⟩
    · simp [Value.ownBlock]
    · intro e
      simp only [Value.ownBlock, Option.some.injEq] at e
      subst e
      rw [hh] at hg'
      simp at hg'

theorem alls_own (b : Nat) (O R : List Bool) (w : World) (hT : TabAt w b O R) : Calls Try.prog 22 #[.pointer (some ⟨b, 0, none⟩), .bool true] w (ListPost w.heap.size (rl O 16) (rl O 16).length w) := alls_any b true O R w hT
theorem alls_other (b : Nat) (O R : List Bool) (w : World) (hT : TabAt w b O R) : Calls Try.prog 22 #[.pointer (some ⟨b, 0, none⟩), .bool false] w (ListPost w.heap.size (rl R 16) (rl R 16).length w) := alls_any b false O R w hT

set_option maxHeartbeats 2000000 in
theorem places_any (b : Nat) (O R : List Bool) (w : World) (hT : TabAt w b O R) : Calls Try.prog 23 #[.pointer (some ⟨b, 0, none⟩)] w (PlacesPost (rows (rl O 16) (rl R 16) (rl O 16).length) w) := by
  obtain ⟨i0, hi, hz0, hz1, hz2⟩ := info_parts Try.info40
  have hA := rl_le O 16
  have hBl := rl_le R 16
  go_enter Try.func23, Try.ntmps23
  go_wp2_with (go_at_call 22; refine (alls_own _ O R _ hT).mono ?_; rintro e w1 ⟨g, cap, rfl, hown, hb⟩)
  have hR1 := Row3.of hown
  clear hown
  have hal := alls_other b O R
  generalize rl O 16 = A at *
  generalize rl R 16 = C at *
  have HAL := Lib.hid hal
  clear hal
  go_loopw [3, 11] (fun v t wr => ∃ k : Nat, k ≤ A.length ∧ t = .int .i64 k ∧ wr.ownsRow w.heap.size 40 2 v (rows A C k).length (pairV (rows A C k)) ∧ Row3 wr g A ∧ Below w.heap.size w wr) (fun _ t _ => A.length - (intOf t).toNat)
  case atStart => exact ⟨0, Nat.zero_le _, rfl, World.ownsRow_nil _ _ _ _, hR1, hb⟩
  case round =>
    clear hR1 hb
    obtain ⟨k, hk, rfl, hown, hR1, hb⟩ := hrel
    have hs := hb.size
    obtain ⟨wo, rfl⟩ : ∃ wo : World, wo = wr := ⟨_, rfl⟩
    by_cases hlt : k < A.length
    · obtain ⟨b1, hg, hc1⟩ := hR1.get hlt
      have hlt' : (k : Int) < (A.length : Int) := by omega
      have hT1 := hT.below hb
      obtain ⟨x, hx⟩ : ∃ x, A[k]?.getD 0 = x := ⟨_, rfl⟩
      rw [hx] at hc1
      have HX := Lib.hid hx
      have HS := Lib.hid (rows_succ A C k hlt)
      have hmul : (rows A C k).length ≤ 256 := by rw [rows_length]; exact Nat.le_trans (Nat.mul_le_mul (Nat.le_trans (Nat.min_le_right _ _) hA) hBl) (by decide)
      clear hx
      subst hg
      go_wp2_with (go_at_call 22; refine (HAL.out _ hT1).mono ?_; rintro e w2 ⟨g2, cap2, rfl, hown2, hb2⟩)
      have hR2 := Row3.of hown2
      have hR1' := hR1.later hb2
      have hown' := owns_below hown hb2
      have hb' := hb.trans (hb2.mono hs)
      clear hown2 hR1 hown hb hb2 hc1 hT1 hs
      go_loopw [3, 18] (fun v t wr => ∃ j : Nat, j ≤ C.length ∧ t = .int .i64 j ∧ wr.ownsRow w.heap.size 40 2 v (rowsIn A C k j).length (pairV (rowsIn A C k j)) ∧ Row3 wr (some ⟨b1, 0, none⟩) A ∧ Row3 wr g2 C ∧ Below w.heap.size w wr) (fun _ t _ => C.length - (intOf t).toNat)
      case atStart => exact ⟨0, Nat.zero_le _, rfl, by rw [rowsIn_zero]; exact hown', hR1', hR2, hb'⟩
      case round =>
        clear hR1' hR2 hown' hb'
        obtain ⟨j, hj, rfl, hown, hR1, hR2, hb⟩ := hrel
        have hs := hb.size
        by_cases hlt2 : j < C.length
        · obtain ⟨b2, hg2, hc2⟩ := hR2.get hlt2
          have hlt2' : (j : Int) < (C.length : Int) := by omega
          obtain ⟨y, hy⟩ : ∃ y, C[j]?.getD 0 = y := ⟨_, rfl⟩
          rw [hy] at hc2
          have HJ := Lib.hid (rowsIn_succ A C k j hlt2)
          rw [hy, HX.out] at HJ
          have hlen : (rowsIn A C k j).length ≤ 272 := by
            rw [rowsIn_length]
            have := Nat.mul_le_mul (Nat.le_trans (Nat.min_le_right k A.length) hA) hBl
            omega
          clear hy
          subst hg2
          go_wp2_with (at_builtin; refine wpList_append_own _ rfl _ _ 37 rfl w.heap.size 40 i0 (.agg #[.int .i64 0, .int .i64 0]) 2 16 Try.underlying37 hi hz0 hz1 hz2 rfl (by decide) _ _ _ rfl (hown.alloc _) ⟨wr.heap.size, 0, none⟩ 1 1 [.int .i64 x, .int .i64 y] rfl rfl ?c1 ?c2 ?c3 ?c4 ?c5 ?_)
          case c1 =>
            intro q u hq
            match q, hq with
            | 0, hq => simp at hq; subst hq; simp [Addr.add]
            | 1, hq => simp at hq; subst hq; simp [Addr.add]
          case c2 => intro u hu; simp at hu; rcases hu with rfl | rfl <;> rfl
          case c3 => unfold maxLen; omega
          case c4 => omega
          case c5 => simp; omega
          intro v' w3 hown3 hgrow _
          have P := pair_snoc hs hown hb hown3 hgrow
          have hR1' := hR1.append hown hgrow
          have hR2' := hR2.append hown hgrow
          clear hown3 hgrow hown hb hR1 hR2 hc2
          go_wp2
          go_roundw
          case rel => exact ⟨j + 1, by omega, by go_num, by rw [HJ.out, List.length_append]; exact P.1, hR1', hR2', P.2⟩
          case measure => simp [intOf]; omega
        · obtain rfl : j = C.length := by omega
          rw [HS.out] at hown
          go_wp2
          go_roundw
          case rel => exact ⟨k + 1, by omega, by go_num, hown, hR1, hb⟩
          case measure => simp [intOf]; omega
    · obtain rfl : k = A.length := by omega
      go_wp2
      go_ret
      exact places_post rfl hown hb

end Go.Proofs.Ytafmkalepgcnkaa
