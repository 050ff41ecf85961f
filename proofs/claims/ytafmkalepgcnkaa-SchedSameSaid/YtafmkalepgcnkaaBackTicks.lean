/-
  The law BackoffTicks, walked: it returns true and leaves all that was there as it was.
-/
import Derived.Test.YtafmkalepgcnkaaBackNone
import Derived.Test.YtafmkalepgcnkaaSteps
namespace Go.Proofs.Ytafmkalepgcnkaa
open Go.RowKit

theorem Try.info3 : (Try.prog.info? 3).map (fun i => (i.zero, i.size, i.bytes)) = some (some (.int .i64 0), 1, 8) := by kernel_rfl

/-- How long it waits, each time, as a list. -/
def bL (m : Int) (k : Nat) : List Int := (List.range k).map (bN m)
theorem bL_succ (m : Int) (k : Nat) : bL m (k + 1) = bL m k ++ [bN m k] := by unfold bL; rw [List.range_succ, List.map_append]; rfl
theorem bL_length (m : Int) (k : Nat) : (bL m k).length = k := by simp [bL]
theorem bL_get (m : Int) (k i : Nat) (h : i < k) : (bL m k)[i]? = some (bN m i) := by simp [bL, h]
theorem bN_mn (m : Int) (k : Nat) : mn2 (2 * bN m k) 64 = bN m (k + 1) := rfl

/-- One more round: what the append leaves, in the relation's own words. -/
theorem own_snoc {B k : Nat} {xs : List Int} {x : Int} {w wr w1 : World} {v v' : Value} {o : Obj} (hB : B ≤ wr.heap.size)
    (hown : wr.ownsRow B 3 1 v k (xs.map (Value.int .i64))) (hnx : Below B w wr)
    (hown' : w1.ownsRow B 3 1 v' (k + 1) (xs.map (Value.int .i64) ++ [.int .i64 x])) (hgrow : (wr.alloc o).grownBy w1 v.ownBlock) :
    w1.ownsRow B 3 1 v' (k + 1) ((xs ++ [x]).map (Value.int .i64)) ∧ Below B w w1 := by
  refine ⟨by rw [List.map_append]; exact hown', (hnx.alloc hB o).grown hgrow (by simp; omega) (fun j hj => (hown.lt j hj).1)⟩

/-- A slice's elements can be read. -/
def RowAt (w : World) (g : Option Addr) (xs : List Int) : Prop :=
  xs = [] ∨ ∃ b, g = some ⟨b, 0, none⟩ ∧ b < w.heap.size ∧ ∀ j, j < xs.length → w.cell? ⟨b, j, none⟩ = some (.int .i64 (xs[j]?.getD 0))

theorem rowAt_of {w : World} {B n cap : Nat} {g : Option Addr} {xs : List Int} (h : w.ownsRow B 3 1 (.slice g n cap) n (xs.map (Value.int .i64))) : RowAt w g xs := by
  rcases h.2 with ⟨hv, hn⟩ | ⟨b, cap', cur, hv, hb, hg, rest⟩
  · left
    have := h.1
    subst hn
    simpa using this
  · right
    simp only [Value.slice.injEq] at hv
    obtain ⟨rfl, _, rfl⟩ := hv
    refine ⟨b, rfl, (Array.getElem?_eq_some_iff.1 hg).1, fun j hj => ?_⟩
    have := h.cells (g := b) rfl j (.int .i64 (xs[j]?.getD 0)) (by simp [List.getElem?_eq_getElem hj])
    rw [Addr.add_lit] at this
    simpa using this

theorem RowAt.later {w w' : World} {g : Option Addr} {xs : List Int} (h : RowAt w g xs) (hb : Below w.heap.size w w') : RowAt w' g xs := by
  rcases h with h | ⟨b, rfl, hl, hc⟩
  · exact .inl h
  · exact .inr ⟨b, rfl, Nat.lt_of_lt_of_le hl hb.size, fun j hj => (hb.cell (p := ⟨b, j, none⟩) hl).trans (hc j hj)⟩

/-- What a call that makes a list of integers leaves. -/
def ListPost (B : Nat) (xs : List Int) (n : Nat) (w : World) (e : Ending) (w' : World) : Prop :=
  ∃ (g : Option Addr) (cap : Nat), e = .returned (.slice g n cap) ∧ w'.ownsRow B 3 1 (.slice g n cap) n (xs.map (Value.int .i64)) ∧ Below B w w'

theorem list_post {B n : Nat} {xs : List Int} {w w' : World} {v : Value} (hown : w'.ownsRow B 3 1 v n (xs.map (Value.int .i64))) (hnx : Below B w w') :
    ListPost B xs n w (.returned v) w' := by
  rcases hown.2 with ⟨rfl, rfl⟩ | ⟨g, cap, cur, rfl, h⟩
  · exact ⟨none, 0, rfl, hown, hnx⟩
  · exact ⟨_, cap, rfl, hown, hnx⟩

set_option maxHeartbeats 800000 in
theorem waits_list (ticks m : Int) (hm : bFirst ticks = m) (w : World) : Calls Try.prog 13 #[.int .i64 ticks] w (ListPost w.heap.size (bL m 7) 7 w) := by
  obtain ⟨i0, hi, hz0, hz1, hz2⟩ := info_parts Try.info3
  have m1 := bFirst_lo ticks
  have m2 := bFirst_hi ticks
  rw [hm] at m1 m2
  rw [← bFirst_mn] at hm
  have hmx := run_mx
  have hmn := run_mn
  go_enter Try.func13, Try.ntmps13
  go_wp2
  clear hm
  go_loopw [3, 4, 5] (fun x v i wr => ∃ k : Nat, k ≤ 7 ∧ i = .int .i64 k ∧ x = .int .i64 (bN m k) ∧ wr.ownsRow w.heap.size 3 1 v k ((bL m k).map (Value.int .i64)) ∧ Below w.heap.size w wr)
    (fun _ _ i _ => 7 - (intOf i).toNat)
  case atStart => exact ⟨0, Nat.zero_le _, rfl, rfl, World.ownsRow_nil _ _ _ _, Below.refl _ _⟩
  case round =>
    obtain ⟨k, hk, rfl, rfl, hown, hnx⟩ := hrel
    have hsz := hnx.size
    have nb := bN_bd m m1 m2 k
    by_cases hlt : k ≤ 6
    · have hlt' : (k : Int) ≤ 6 := by omega
      have E := Lib.hid (bN_mn m k)
      go_wp2_with (at_builtin; refine wpList_append_own _ rfl _ _ 23 rfl w.heap.size 3 i0 (.int .i64 0) 1 8 Try.underlying23 hi hz0 hz1 hz2 rfl (by decide) _ _ _ rfl (hown.alloc _) ⟨wr.heap.size, 0, none⟩ 1 1 [.int .i64 (bN m k)] rfl rfl ?c1 ?c2 ?c3 ?c4 ?c5 ?_)
      case c1 =>
        intro j u hj
        match j, hj with
        | 0, hj => simp at hj; subst hj; simp [Addr.add]
      case c2 => intro u hu; simp at hu; subst hu; rfl
      case c3 => unfold maxLen; omega
      case c4 => omega
      case c5 => simp; omega
      intro v' w1 hown' hgrow _
      have R := own_snoc hsz hown hnx hown' hgrow
      rw [← bL_succ] at R
      clear hown' hgrow hown hnx
      go_wp2
      go_roundw
      case rel => exact ⟨k + 1, by omega, by go_num, by rw [E.out], R.1, R.2⟩
      case measure => simp [intOf]; omega
    · obtain rfl : k = 7 := by omega
      go_wp2
      go_ret
      exact list_post hown hnx

/-- Where it stands when it waits for the i-th time. -/
def bX (m : Int) (i : Nat) : Int := if i ≤ 6 then bN m i else 0
def bZ (i : Nat) : Int := if i ≤ 6 then (i : Int) else 6
theorem bX_le (m : Int) (i : Nat) (h : i ≤ 6) : bX m i = bN m i := if_pos h
theorem bZ_le (i : Nat) (h : i ≤ 6) : bZ i = i := if_pos h

/-- The struct in its block, and the list in its own, as the law's loops hold them. -/
structure Tk (w0 : World) (ba gb : Nat) (m x y z : Int) (wr : World) : Prop where
  one : wr.heap[ba]? = some (.cells #[.int .i64 x, .int .i64 y, .int .i64 z] 26 (0, 0))
  row : gb < wr.heap.size ∧ ∀ j, j < 7 → wr.cell? ⟨gb, j, none⟩ = some (.int .i64 (bN m j))
  below : Below w0.heap.size w0 wr
  lo : w0.heap.size ≤ ba
  ne : gb ≠ ba

section
variable {w0 w1 w' : World} {ba gb : Nat} {m x y z : Int}
theorem Tk.later (h : Tk w0 ba gb m x y z w1) (hb : Below w1.heap.size w1 w') : Tk w0 ba gb m x y z w' :=
  ⟨(hb.block _ (lt_block h.one)).trans h.one, ⟨Nat.lt_of_lt_of_le h.row.1 hb.size, fun j hj => (hb.cell (p := ⟨gb, j, none⟩) h.row.1).trans (h.row.2 j hj)⟩, h.below.trans (hb.mono h.below.size), h.lo, h.ne⟩
theorem Tk.drewn (h : Tk w0 ba gb m x y z w1) : Tk w0 ba gb m x y z w1.drew := h.later ((Below.refl _ _).drew)
theorem Tk.alloc (h : Tk w0 ba gb m x y z w1) (o : Obj) : Tk w0 ba gb m x y z (w1.alloc o) := h.later ((Below.refl _ _).alloc (Nat.le_refl _) o)
theorem Tk.set (h : Tk w0 ba gb m x y z w1) (a b c : Int) : Tk w0 ba gb m a b c (((w1.setCell ⟨ba, 0, none⟩ (.int .i64 a)).setCell ⟨ba, 1, none⟩ (.int .i64 b)).setCell ⟨ba, 2, none⟩ (.int .i64 c)) :=
  ⟨set3 h.one, ⟨by simpa [World.setCell] using h.row.1, fun j hj => (World.cell?_of_block (a := ⟨gb, j, none⟩) (set3_other h.ne)).trans (h.row.2 j hj)⟩, ((h.below.setCell h.lo _).setCell h.lo _).setCell h.lo _, h.lo, h.ne⟩
theorem Tk.cells (h : Tk w0 ba gb m x y z w1) :
    w1.cell? ⟨ba, 0, none⟩ = some (.int .i64 x) ∧ w1.cell? ⟨ba, 1, none⟩ = some (.int .i64 y) ∧ w1.cell? ⟨ba, 2, none⟩ = some (.int .i64 z) ∧ w1.frozen? ⟨ba, 0, none⟩ = false ∧ w1.frozen? ⟨ba, 1, none⟩ = false ∧ w1.frozen? ⟨ba, 2, none⟩ = false :=
  ⟨by rw [cell_of_row _ _ _ _ _ _ h.one]; rfl, by rw [cell_of_row _ _ _ _ _ _ h.one]; rfl, by rw [cell_of_row _ _ _ _ _ _ h.one]; rfl, frozen_of_row _ _ _ _ _ h.one, frozen_of_row _ _ _ _ _ h.one, frozen_of_row _ _ _ _ _ h.one⟩
/-- What a region that draws its order asks for. -/
theorem Tk.held (h : Tk w0 ba gb m x y z w1) (i : Nat) (hi : i < 7) :
    w1.cell? ⟨ba, 0, none⟩ = some (.int .i64 x) ∧ w1.cell? ⟨ba, 1, none⟩ = some (.int .i64 y) ∧ w1.cell? ⟨ba, 2, none⟩ = some (.int .i64 z) ∧ w1.cell? ⟨gb, i, none⟩ = some (.int .i64 (bN m i)) ∧ Tk w0 ba gb m x y z w1 :=
  ⟨h.cells.1, h.cells.2.1, h.cells.2.2.1, h.row.2 i hi, h⟩
theorem Tk.keep {i : Nat} (hi : i < 7) (h : w1.cell? ⟨ba, 0, none⟩ = some (.int .i64 x) ∧ w1.cell? ⟨ba, 1, none⟩ = some (.int .i64 y) ∧ w1.cell? ⟨ba, 2, none⟩ = some (.int .i64 z) ∧ w1.cell? ⟨gb, i, none⟩ = some (.int .i64 (bN m i)) ∧ Tk w0 ba gb m x y z w1)
    (hb : Below w1.heap.size w1 w') : w'.cell? ⟨ba, 0, none⟩ = some (.int .i64 x) ∧ w'.cell? ⟨ba, 1, none⟩ = some (.int .i64 y) ∧ w'.cell? ⟨ba, 2, none⟩ = some (.int .i64 z) ∧ w'.cell? ⟨gb, i, none⟩ = some (.int .i64 (bN m i)) ∧ Tk w0 ba gb m x y z w' :=
  (h.2.2.2.2.later hb).held i hi
end

theorem tick_over_i (wt tr : Int) (h : 1 ≤ wt) (h6 : tr = 6) (w : World) : Calls Try.prog 18 #[.agg #[.int .i64 wt, .int .i64 1, .int .i64 tr]] w fun e w' =>
    e = .returned (.tuple #[.agg #[.int .i64 0, .int .i64 0, .int .i64 tr], .bool false, .bool true]) ∧ Below w.heap.size w w' := by
  subst h6; exact tick_over wt h w

/-- Beside them a second struct, in a block of its own. -/
structure Tk2 (w0 : World) (ba gb bn : Nat) (m x y z x' y' z' : Int) (wr : World) : Prop where
  tk : Tk w0 ba gb m x y z wr
  two : wr.heap[bn]? = some (.cells #[.int .i64 x', .int .i64 y', .int .i64 z'] 26 (0, 0))

section
variable {w0 w1 w' : World} {ba gb bn : Nat} {m x y z x' y' z' : Int}
theorem Tk2.later (h : Tk2 w0 ba gb bn m x y z x' y' z' w1) (hb : Below w1.heap.size w1 w') : Tk2 w0 ba gb bn m x y z x' y' z' w' :=
  ⟨h.tk.later hb, (hb.block _ (lt_block h.two)).trans h.two⟩
theorem Tk2.drewn (h : Tk2 w0 ba gb bn m x y z x' y' z' w1) : Tk2 w0 ba gb bn m x y z x' y' z' w1.drew := h.later ((Below.refl _ _).drew)
theorem Tk2.drewN (h : Tk2 w0 ba gb bn m x y z x' y' z' w1) (n : Nat) : Tk2 w0 ba gb bn m x y z x' y' z' (w1.drewN n) := h.later (below_drewN n (Below.refl _ _))
theorem Tk2.fresh (h : Tk w0 ba gb m x y z w1) : Tk2 w0 ba gb w1.heap.size m x y z x' y' z' (w1.alloc (.cells #[.int .i64 x', .int .i64 y', .int .i64 z'] 26)) :=
  ⟨h.alloc _, heap_alloc_new w1 _⟩
theorem Tk2.cells (h : Tk2 w0 ba gb bn m x y z x' y' z' w1) :
    w1.cell? ⟨bn, 0, none⟩ = some (.int .i64 x') ∧ w1.cell? ⟨bn, 1, none⟩ = some (.int .i64 y') ∧ w1.cell? ⟨bn, 2, none⟩ = some (.int .i64 z') :=
  ⟨by rw [cell_of_row _ _ _ _ _ _ h.two]; rfl, by rw [cell_of_row _ _ _ _ _ _ h.two]; rfl, by rw [cell_of_row _ _ _ _ _ _ h.two]; rfl⟩
/-- What the inner round's region asks for. -/
theorem Tk2.held (h : Tk2 w0 ba gb bn m x y z x' y' z' w1) (i : Nat) (hi : i < 7) :
    w1.cell? ⟨bn, 0, none⟩ = some (.int .i64 x') ∧ w1.cell? ⟨bn, 1, none⟩ = some (.int .i64 y') ∧ w1.cell? ⟨bn, 2, none⟩ = some (.int .i64 z') ∧ w1.cell? ⟨gb, i, none⟩ = some (.int .i64 (bN m i)) ∧ Tk2 w0 ba gb bn m x y z x' y' z' w1 :=
  ⟨h.cells.1, h.cells.2.1, h.cells.2.2, h.tk.row.2 i hi, h⟩
theorem Tk2.keep {i : Nat} (hi : i < 7) (h : w1.cell? ⟨bn, 0, none⟩ = some (.int .i64 x') ∧ w1.cell? ⟨bn, 1, none⟩ = some (.int .i64 y') ∧ w1.cell? ⟨bn, 2, none⟩ = some (.int .i64 z') ∧ w1.cell? ⟨gb, i, none⟩ = some (.int .i64 (bN m i)) ∧ Tk2 w0 ba gb bn m x y z x' y' z' w1)
    (hb : Below w1.heap.size w1 w') : w'.cell? ⟨bn, 0, none⟩ = some (.int .i64 x') ∧ w'.cell? ⟨bn, 1, none⟩ = some (.int .i64 y') ∧ w'.cell? ⟨bn, 2, none⟩ = some (.int .i64 z') ∧ w'.cell? ⟨gb, i, none⟩ = some (.int .i64 (bN m i)) ∧ Tk2 w0 ba gb bn m x y z x' y' z' w' :=
  (h.2.2.2.2.later hb).held i hi
/-- What the law's last region asks for. -/
theorem Tk2.both (h : Tk2 w0 ba gb bn m x y z x' y' z' w1) :
    w1.cell? ⟨ba, 0, none⟩ = some (.int .i64 x) ∧ w1.cell? ⟨ba, 1, none⟩ = some (.int .i64 y) ∧ w1.cell? ⟨ba, 2, none⟩ = some (.int .i64 z) ∧ w1.cell? ⟨bn, 0, none⟩ = some (.int .i64 x') ∧ w1.cell? ⟨bn, 1, none⟩ = some (.int .i64 y') ∧ w1.cell? ⟨bn, 2, none⟩ = some (.int .i64 z') ∧ Tk2 w0 ba gb bn m x y z x' y' z' w1 :=
  ⟨h.tk.cells.1, h.tk.cells.2.1, h.tk.cells.2.2.1, h.cells.1, h.cells.2.1, h.cells.2.2, h⟩
theorem Tk2.keepBoth (h : w1.cell? ⟨ba, 0, none⟩ = some (.int .i64 x) ∧ w1.cell? ⟨ba, 1, none⟩ = some (.int .i64 y) ∧ w1.cell? ⟨ba, 2, none⟩ = some (.int .i64 z) ∧ w1.cell? ⟨bn, 0, none⟩ = some (.int .i64 x') ∧ w1.cell? ⟨bn, 1, none⟩ = some (.int .i64 y') ∧ w1.cell? ⟨bn, 2, none⟩ = some (.int .i64 z') ∧ Tk2 w0 ba gb bn m x y z x' y' z' w1)
    (hb : Below w1.heap.size w1 w') : w'.cell? ⟨ba, 0, none⟩ = some (.int .i64 x) ∧ w'.cell? ⟨ba, 1, none⟩ = some (.int .i64 y) ∧ w'.cell? ⟨ba, 2, none⟩ = some (.int .i64 z) ∧ w'.cell? ⟨bn, 0, none⟩ = some (.int .i64 x') ∧ w'.cell? ⟨bn, 1, none⟩ = some (.int .i64 y') ∧ w'.cell? ⟨bn, 2, none⟩ = some (.int .i64 z') ∧ Tk2 w0 ba gb bn m x y z x' y' z' w' :=
  (h.2.2.2.2.2.2.later hb).both
end

theorem bX_succ (m : Int) (i : Nat) (h : i ≤ 5) : bX m (i + 1) = min (2 * bN m i) 64 := by rw [bX_le m (i + 1) (by omega)]; rfl

set_option maxRecDepth 100000 in
set_option maxHeartbeats 8000000 in
theorem ticks_any (ticks : Int) (w : World) : Calls Try.prog 3 #[.int .i64 ticks] w fun e w' => e = .returned (.bool true) ∧ Below w.heap.size w w' := by
  obtain ⟨m, hm⟩ : ∃ m, bFirst ticks = m := ⟨_, rfl⟩
  have m1 := bFirst_lo ticks
  have m2 := bFirst_hi ticks
  rw [hm] at m1 m2
  have HM := Lib.hid hm
  clear hm
  have S7 := bSum_bd m m1 m2 7
  go_enter Try.func3, Try.ntmps3
  go_wp2_with (first | (go_at_call 12; refine (works17 _).mono ?_; rintro e w1 ⟨rfl, hb1⟩) | (go_at_call 13; refine (waits_list _ m HM.out _).mono ?_; rintro e w2 ⟨g, cap, rfl, hown, hb2⟩) | (go_at_call 14; refine (begin_m HM.out _).mono ?_; rintro e w3 ⟨rfl, hb3⟩))
  obtain ⟨gb, cap', cur, hv, hgb, hgh, -⟩ : ∃ gb cap' cur, Value.slice g 7 cap = .slice (some ⟨gb, 0, none⟩) 7 cap' ∧ w1.heap.size ≤ gb ∧ w2.heap[gb]? = some (.cells cur 3 (0, 0)) ∧ True := by
    rcases hown.2 with ⟨_, h0⟩ | ⟨gb, cap', cur, h1, h2, h3, _⟩
    · exact absurd h0 (by decide)
    · exact ⟨gb, cap', cur, h1, h2, h3, trivial⟩
  simp only [Value.slice.injEq, true_and] at hv
  obtain ⟨rfl, rfl⟩ := hv
  have hrow : ∀ j, j < 7 → w2.cell? ⟨gb, j, none⟩ = some (.int .i64 (bN m j)) := by
    intro j hj
    have := hown.cells (g := gb) rfl j (.int .i64 (bN m j)) (by rw [List.getElem?_map, bL_get m 7 j hj]; rfl)
    rwa [Addr.add_lit, Nat.zero_add] at this
  have hglt := lt_block hgh
  have hT : Tk w w3.heap.size gb m m m 0 (w3.alloc (.cells #[.int .i64 m, .int .i64 m, .int .i64 0] 26)) := by
    have b13 := (hb1.trans (hb2.mono hb1.size)).trans (hb3.mono (Nat.le_trans hb1.size hb2.size))
    refine ⟨heap_alloc_new w3 _, ⟨?_, fun j hj => ?_⟩, b13.alloc b13.size _, b13.size, ?_⟩
    · have := hb3.size; simp; omega
    · rw [World.cell?_alloc_past _ _ _ (by have := hb3.size; show gb < _; omega)]
      exact (hb3.cell (p := ⟨gb, j, none⟩) hglt).trans (hrow j hj)
    · have := hb3.size; omega
  clear hb1 hb2 hb3 hown hgh hrow hglt hgb
  go_loopw [5, 6] (fun al t wr => ∃ i : Nat, i ≤ 7 ∧ t = .int .i64 i ∧ al = .int .i64 (bSum m i) ∧ Tk w w3.heap.size gb m (bX m i) (bX m i) (bZ i) wr) (fun _ t _ => 7 - (intOf t).toNat)
  case atStart => exact ⟨0, by omega, rfl, rfl, hT⟩
  case round =>
    clear hT
    obtain ⟨i, hi, rfl, rfl, hT⟩ := hrel
    obtain ⟨wo, rfl⟩ : ∃ wo : World, wo = wr := ⟨_, rfl⟩
    have nb := bN_bd m m1 m2 i
    have sb := bSum_bd m m1 m2 i
    by_cases hlt : i < 7
    · rw [bX_le m i (by omega), bZ_le i (by omega)] at hT
      have hlt' : (i : Int) < 7 := by omega
      go_wp2
      go_region_held3 (fun w' => w'.cell? ⟨w3.heap.size, 0, none⟩ = some (.int .i64 (bN m i)) ∧ w'.cell? ⟨w3.heap.size, 1, none⟩ = some (.int .i64 (bN m i)) ∧ w'.cell? ⟨w3.heap.size, 2, none⟩ = some (.int .i64 i) ∧
          w'.cell? ⟨gb, i, none⟩ = some (.int .i64 (bN m i)) ∧ Tk w w3.heap.size gb m (bN m i) (bN m i) i w')
        (first | exact hT.drewn.held i hlt | exact Tk.keep hlt (by assumption) (by assumption) | go_keep)
        (first | (go_at_call 15; refine (waits_yes _ _ _ nb.1 _).mono ?_; rintro e w5 ⟨rfl, hb⟩) | (go_at_call 16; refine (tries_any _ _ _ _).mono ?_; rintro e w5 ⟨rfl, hb⟩) | (go_at_call 17; refine (left_any _ _ _ _).mono ?_; rintro e w5 ⟨rfl, hb⟩))
      obtain ⟨-, -, -, -, hT5⟩ := (show w5.cell? ⟨w3.heap.size, 0, none⟩ = some (.int .i64 (bN m i)) ∧ w5.cell? ⟨w3.heap.size, 1, none⟩ = some (.int .i64 (bN m i)) ∧ w5.cell? ⟨w3.heap.size, 2, none⟩ = some (.int .i64 i) ∧
          w5.cell? ⟨gb, i, none⟩ = some (.int .i64 (bN m i)) ∧ Tk w w3.heap.size gb m (bN m i) (bN m i) i w5 from by assumption)
      clear hT
      have hT := hT5
      clear hT5
      go_wp2
      go_loopw [5, 7] (fun al t wr => ∃ k : Int, 1 ≤ k ∧ k ≤ bN m i + 1 ∧ t = .int .i64 k ∧ al = .int .i64 (bSum m i + (k - 1)) ∧
          ((k ≤ bN m i ∧ Tk w w3.heap.size gb m (bN m i) (bN m i - k + 1) i wr) ∨ (bN m i < k ∧ Tk w w3.heap.size gb m (bX m (i + 1)) (bX m (i + 1)) (bZ (i + 1)) wr)))
        (fun _ t _ => (bN m i + 1 - intOf t).toNat)
      case atStart => exact ⟨1, by omega, by omega, rfl, by go_num, .inl ⟨nb.1, by rw [show bN m i - 1 + 1 = bN m i from by omega]; exact hT⟩⟩
      case round =>
        clear hT
        obtain ⟨k, hk1, hk2, rfl, rfl, hT⟩ := hrel
        rcases hT with ⟨hk, hT⟩ | ⟨hk, hT⟩
        · by_cases hl : k < bN m i
          · have hne : (k == bN m i) = false := by rw [beq_eq_false_iff_ne]; omega
            obtain ⟨r0, r1, r2, f0, f1, f2⟩ := hT.cells
            have rg := hT.row.2 i hlt
            go_wp2_with fail
            refine (tick_on _ _ _ nb.1 (by omega) (by omega) _).mono ?_
            rintro e w6 ⟨rfl, hb6⟩
            have hT6 := hT.later hb6
            clear hT r0 r1 r2 f0 f1 f2 rg hb6
            have rg := hT6.row.2 i hlt
            have hs6 := hT6.below.size
            have hg6 := hT6.row.1
            have hP : w6.heap.size ≠ gb := by omega
            have hU := Tk2.fresh (x' := bN m i) (y' := bN m i - k) (z' := i) hT6
            clear hT6
            have rg' := hU.tk.row.2 i hlt
            go_wp2
            have hwr : IntKind.i64.wrap (bN m i - k) = bN m i - k := IntWalk.i64_in _ (by omega)
            refine wp_region_held_drew (S := fun w' => w'.cell? ⟨w6.heap.size, 0, none⟩ = some (.int .i64 (bN m i)) ∧ w'.cell? ⟨w6.heap.size, 1, none⟩ = some (.int .i64 (bN m i - k)) ∧ w'.cell? ⟨w6.heap.size, 2, none⟩ = some (.int .i64 i) ∧ w'.cell? ⟨gb, i, none⟩ = some (.int .i64 (bN m i)) ∧ Tk2 w w3.heap.size gb w6.heap.size m (bN m i) (bN m i - k + 1) i (bN m i) (bN m i - k) i w') (by kernel_rfl) (hU.drewn.held i hlt) (fun hHeld => ?_)
            refine stepRuns (i := 0) (d := 65) (v := ?_) rfl rfl (by kernel_rfl) (by kernel_rfl) (by kernel_rfl) (fun _ _ _ h => h) hHeld ?_ ?_
            rotate_left
            · intro w hSw; (try dsimp only at hSw); simp only [List.getElem?_toArray, List.getElem?_cons_zero, Option.map_some]; go_simp; try (with_reducible rfl)
            simp only [List.setIfInBounds_toArray, List.set_cons_zero, List.set_cons_succ]
            refine stepRuns (i := 1) (d := 66) (v := ?_) rfl rfl (by kernel_rfl) (by kernel_rfl) (by kernel_rfl) (fun _ _ _ h => h) hHeld ?_ ?_
            rotate_left
            · intro w hSw; (try dsimp only at hSw); simp only [List.getElem?_toArray, List.getElem?_cons_zero, List.getElem?_cons_succ, Option.map_some]; go_simp; try (with_reducible rfl)
            simp only [List.setIfInBounds_toArray, List.set_cons_zero, List.set_cons_succ]
            refine stepRuns (i := 2) (d := 67) (v := ?_) rfl rfl (by kernel_rfl) (by kernel_rfl) (by kernel_rfl) (fun _ _ _ h => h) hHeld ?_ ?_
            rotate_left
            · intro w hSw; (try dsimp only at hSw); simp only [List.getElem?_toArray, List.getElem?_cons_zero, List.getElem?_cons_succ, Option.map_some]; go_simp; try (with_reducible rfl)
            simp only [List.setIfInBounds_toArray, List.set_cons_zero, List.set_cons_succ]
            refine stepSkips (i := 3) (d := 68) rfl rfl (by kernel_rfl) (by kernel_rfl) (by kernel_rfl) (fun _ _ _ h => h) hHeld ?_
            simp only [List.setIfInBounds_toArray, List.set_cons_zero, List.set_cons_succ]
            refine stepSkips (i := 4) (d := 69) rfl rfl (by kernel_rfl) (by kernel_rfl) (by kernel_rfl) (fun _ _ _ h => h) hHeld ?_
            simp only [List.setIfInBounds_toArray, List.set_cons_zero, List.set_cons_succ]
            refine stepRuns (i := 5) (d := 70) (v := ?_) rfl rfl (by kernel_rfl) (by kernel_rfl) (by kernel_rfl) (fun _ _ _ h => h) hHeld ?_ ?_
            rotate_left
            · intro w hSw; (try dsimp only at hSw); simp only [List.getElem?_toArray, List.getElem?_cons_zero, List.getElem?_cons_succ, Option.map_some]; go_simp; try (with_reducible rfl)
            simp only [List.setIfInBounds_toArray, List.set_cons_zero, List.set_cons_succ]
            refine stepRuns (i := 6) (d := 71) (v := ?_) rfl rfl (by kernel_rfl) (by kernel_rfl) (by kernel_rfl) (fun _ _ _ h => h) hHeld ?_ ?_
            rotate_left
            · intro w hSw; (try dsimp only at hSw); simp only [List.getElem?_toArray, List.getElem?_cons_zero, List.getElem?_cons_succ, Option.map_some]; go_simp; try (with_reducible rfl)
            simp only [List.setIfInBounds_toArray, List.set_cons_zero, List.set_cons_succ]
            refine stepRuns (i := 7) (d := 72) (v := ?_) rfl rfl (by kernel_rfl) (by kernel_rfl) (by kernel_rfl) (fun _ _ _ h => h) hHeld ?_ ?_
            rotate_left
            · intro w hSw; (try dsimp only at hSw); simp only [List.getElem?_toArray, List.getElem?_cons_zero, List.getElem?_cons_succ, Option.map_some]; go_simp; try (with_reducible rfl)
            simp only [List.setIfInBounds_toArray, List.set_cons_zero, List.set_cons_succ]
            refine stepRuns (i := 8) (d := 73) (v := ?_) rfl rfl (by kernel_rfl) (by kernel_rfl) (by kernel_rfl) (fun _ _ _ h => h) hHeld ?_ ?_
            rotate_left
            · intro w hSw; (try dsimp only at hSw); simp only [List.getElem?_toArray, List.getElem?_cons_zero, List.getElem?_cons_succ, Option.map_some]; go_simp; try (with_reducible rfl)
            simp only [List.setIfInBounds_toArray, List.set_cons_zero, List.set_cons_succ]
            refine stepRuns (i := 9) (d := 74) (v := ?_) rfl rfl (by kernel_rfl) (by kernel_rfl) (by kernel_rfl) (fun _ _ _ h => h) hHeld ?_ ?_
            rotate_left
            · intro w hSw; (try dsimp only at hSw); simp only [List.getElem?_toArray, List.getElem?_cons_zero, List.getElem?_cons_succ, Option.map_some]; go_simp; try (with_reducible rfl)
            simp only [List.setIfInBounds_toArray, List.set_cons_zero, List.set_cons_succ]
            refine stepRuns (i := 10) (d := 75) (v := ?_) rfl rfl (by kernel_rfl) (by kernel_rfl) (by kernel_rfl) (fun _ _ _ h => h) hHeld ?_ ?_
            rotate_left
            · intro w hSw; (try dsimp only at hSw); simp only [List.getElem?_toArray, List.getElem?_cons_zero, List.getElem?_cons_succ, Option.map_some]; go_simp; try (with_reducible rfl)
            simp only [List.setIfInBounds_toArray, List.set_cons_zero, List.set_cons_succ]
            refine stepSkips (i := 11) (d := 76) rfl rfl (by kernel_rfl) (by kernel_rfl) (by kernel_rfl) (fun _ _ _ h => h) hHeld ?_
            simp only [List.setIfInBounds_toArray, List.set_cons_zero, List.set_cons_succ]
            refine stepSkips (i := 12) (d := 77) rfl rfl (by kernel_rfl) (by kernel_rfl) (by kernel_rfl) (fun _ _ _ h => h) hHeld ?_
            simp only [List.setIfInBounds_toArray, List.set_cons_zero, List.set_cons_succ]
            refine stepRuns (i := 13) (d := 78) (v := ?_) rfl rfl (by kernel_rfl) (by kernel_rfl) (by kernel_rfl) (fun _ _ _ h => h) hHeld ?_ ?_
            rotate_left
            · intro w hSw; (try dsimp only at hSw); simp only [List.getElem?_toArray, List.getElem?_cons_zero, List.getElem?_cons_succ, Option.map_some]; go_simp; try (with_reducible rfl)
            simp only [List.setIfInBounds_toArray, List.set_cons_zero, List.set_cons_succ]
            refine stepRuns (i := 14) (d := 79) (v := ?_) rfl rfl (by kernel_rfl) (by kernel_rfl) (by kernel_rfl) (fun _ _ _ h => h) hHeld ?_ ?_
            rotate_left
            · intro w hSw; (try dsimp only at hSw); simp only [List.getElem?_toArray, List.getElem?_cons_zero, List.getElem?_cons_succ, Option.map_some]; go_simp; try (with_reducible rfl)
            simp only [List.setIfInBounds_toArray, List.set_cons_zero, List.set_cons_succ]
            refine stepRuns (i := 15) (d := 80) (v := ?_) rfl rfl (by kernel_rfl) (by kernel_rfl) (by kernel_rfl) (fun _ _ _ h => h) hHeld ?_ ?_
            rotate_left
            · intro w hSw; (try dsimp only at hSw); simp only [List.getElem?_toArray, List.getElem?_cons_zero, List.getElem?_cons_succ, Option.map_some]; go_simp; try (with_reducible rfl)
            simp only [List.setIfInBounds_toArray, List.set_cons_zero, List.set_cons_succ]
            refine stepRuns (i := 16) (d := 81) (v := ?_) rfl rfl (by kernel_rfl) (by kernel_rfl) (by kernel_rfl) (fun _ _ _ h => h) hHeld ?_ ?_
            rotate_left
            · intro w hSw; (try dsimp only at hSw); simp only [List.getElem?_toArray, List.getElem?_cons_zero, List.getElem?_cons_succ, Option.map_some]; go_simp; try (with_reducible rfl)
            simp only [List.setIfInBounds_toArray, List.set_cons_zero, List.set_cons_succ]
            refine stepRuns (i := 17) (d := 82) (v := ?_) rfl rfl (by kernel_rfl) (by kernel_rfl) (by kernel_rfl) (fun _ _ _ h => h) hHeld ?_ ?_
            rotate_left
            · intro w hSw; (try dsimp only at hSw); simp only [List.getElem?_toArray, List.getElem?_cons_zero, List.getElem?_cons_succ, Option.map_some]; go_simp; try (with_reducible rfl)
            simp only [List.setIfInBounds_toArray, List.set_cons_zero, List.set_cons_succ]
            refine stepRuns (i := 18) (d := 83) (v := ?_) rfl rfl (by kernel_rfl) (by kernel_rfl) (by kernel_rfl) (fun _ _ _ h => h) hHeld ?_ ?_
            rotate_left
            · intro w hSw; (try dsimp only at hSw); simp only [List.getElem?_toArray, List.getElem?_cons_zero, List.getElem?_cons_succ, Option.map_some]; go_simp; try (with_reducible rfl)
            simp only [List.setIfInBounds_toArray, List.set_cons_zero, List.set_cons_succ]
            refine stepRuns (i := 19) (d := 84) (v := ?_) rfl rfl (by kernel_rfl) (by kernel_rfl) (by kernel_rfl) (fun _ _ _ h => h) hHeld ?_ ?_
            rotate_left
            · intro w hSw; (try dsimp only at hSw); simp only [List.getElem?_toArray, List.getElem?_cons_zero, List.getElem?_cons_succ, Option.map_some]; go_simp; try (with_reducible rfl)
            simp only [List.setIfInBounds_toArray, List.set_cons_zero, List.set_cons_succ]
            refine stepRuns (i := 20) (d := 85) (v := ?_) rfl rfl (by kernel_rfl) (by kernel_rfl) (by kernel_rfl) (fun _ _ _ h => h) hHeld ?_ ?_
            rotate_left
            · intro w hSw; (try dsimp only at hSw); simp only [List.getElem?_toArray, List.getElem?_cons_zero, List.getElem?_cons_succ, Option.map_some]; go_simp; try (with_reducible rfl)
            simp only [List.setIfInBounds_toArray, List.set_cons_zero, List.set_cons_succ]
            refine stepRuns (i := 22) (d := 87) (v := ?_) rfl rfl (by kernel_rfl) (by kernel_rfl) (by kernel_rfl) (fun _ _ _ h => h) hHeld ?_ ?_
            rotate_left
            · intro w hSw; (try dsimp only at hSw); simp only [List.getElem?_toArray, List.getElem?_cons_zero, List.getElem?_cons_succ, Option.map_some]; go_simp; try (with_reducible rfl)
            simp only [List.setIfInBounds_toArray, List.set_cons_zero, List.set_cons_succ]
            refine stepRuns (i := 23) (d := 88) (v := ?_) rfl rfl (by kernel_rfl) (by kernel_rfl) (by kernel_rfl) (fun _ _ _ h => h) hHeld ?_ ?_
            rotate_left
            · intro w hSw; (try dsimp only at hSw); simp only [List.getElem?_toArray, List.getElem?_cons_zero, List.getElem?_cons_succ, Option.map_some]; go_simp; try (with_reducible rfl)
            simp only [List.setIfInBounds_toArray, List.set_cons_zero, List.set_cons_succ]
            refine stepRuns (i := 24) (d := 89) (v := ?_) rfl rfl (by kernel_rfl) (by kernel_rfl) (by kernel_rfl) (fun _ _ _ h => h) hHeld ?_ ?_
            rotate_left
            · intro w hSw; (try dsimp only at hSw); simp only [List.getElem?_toArray, List.getElem?_cons_zero, List.getElem?_cons_succ, Option.map_some]; go_simp; try (with_reducible rfl)
            simp only [List.setIfInBounds_toArray, List.set_cons_zero, List.set_cons_succ]
            refine stepRuns (i := 25) (d := 90) (v := ?_) rfl rfl (by kernel_rfl) (by kernel_rfl) (by kernel_rfl) (fun _ _ _ h => h) hHeld ?_ ?_
            rotate_left
            · intro w hSw; (try dsimp only at hSw); simp only [List.getElem?_toArray, List.getElem?_cons_zero, List.getElem?_cons_succ, Option.map_some]; go_simp; try (with_reducible rfl)
            simp only [List.setIfInBounds_toArray, List.set_cons_zero, List.set_cons_succ]
            refine stepRuns (i := 26) (d := 91) (v := ?_) rfl rfl (by kernel_rfl) (by kernel_rfl) (by kernel_rfl) (fun _ _ _ h => h) hHeld ?_ ?_
            rotate_left
            · intro w hSw; (try dsimp only at hSw); simp only [List.getElem?_toArray, List.getElem?_cons_zero, List.getElem?_cons_succ, Option.map_some]; go_simp; try (with_reducible rfl)
            simp only [List.setIfInBounds_toArray, List.set_cons_zero, List.set_cons_succ]
            refine stepRuns (i := 27) (d := 92) (v := ?_) rfl rfl (by kernel_rfl) (by kernel_rfl) (by kernel_rfl) (fun _ _ _ h => h) hHeld ?_ ?_
            rotate_left
            · intro w hSw; (try dsimp only at hSw); simp only [List.getElem?_toArray, List.getElem?_cons_zero, List.getElem?_cons_succ, Option.map_some]; go_simp; try (with_reducible rfl)
            simp only [List.setIfInBounds_toArray, List.set_cons_zero, List.set_cons_succ]
            refine wpAnyH_ready (rs := [21]) (by kernel_rfl) (by simp) ?_
            refine AllReadyH.cons rfl (fun K hK => ?_) AllReadyH.nil
            go_simp
            (refine (left_any _ _ _ _).mono ?_; rintro e w7 ⟨rfl, hb⟩)
            refine hK.out _ _ (Tk2.keep hlt hHeld hb) (fun hHeld' => ?_)
            clear hK K hHeld
            have hHeld := hHeld'; clear hHeld'
            try simp only [Act.put, List.setIfInBounds_toArray, List.set_cons_zero, List.set_cons_succ]
            refine stepRuns (i := 28) (d := 93) (v := ?_) rfl rfl (by kernel_rfl) (by kernel_rfl) (by kernel_rfl) (fun _ _ _ h => h) hHeld ?_ ?_
            rotate_left
            · intro w hSw; (try dsimp only at hSw); simp only [List.getElem?_toArray, List.getElem?_cons_zero, List.getElem?_cons_succ, Option.map_some]; go_simp; try (with_reducible rfl)
            simp only [List.setIfInBounds_toArray, List.set_cons_zero, List.set_cons_succ]
            refine stepRuns (i := 29) (d := 94) (v := ?_) rfl rfl (by kernel_rfl) (by kernel_rfl) (by kernel_rfl) (fun _ _ _ h => h) hHeld ?_ ?_
            rotate_left
            · intro w hSw; (try dsimp only at hSw); simp only [List.getElem?_toArray, List.getElem?_cons_zero, List.getElem?_cons_succ, Option.map_some]; go_simp; try (with_reducible rfl)
            simp only [List.setIfInBounds_toArray, List.set_cons_zero, List.set_cons_succ]
            refine stepRuns (i := 30) (d := 95) (v := ?_) rfl rfl (by kernel_rfl) (by kernel_rfl) (by kernel_rfl) (fun _ _ _ h => h) hHeld ?_ ?_
            rotate_left
            · intro w hSw; (try dsimp only at hSw); simp only [List.getElem?_toArray, List.getElem?_cons_zero, List.getElem?_cons_succ, Option.map_some]; go_simp; try (with_reducible rfl)
            simp only [List.setIfInBounds_toArray, List.set_cons_zero, List.set_cons_succ]
            refine wpAnyH_done (by kernel_rfl) ?_ _
            have hU7 := hHeld.2.2.2.2
            clear hHeld hwr
            clear hU rg rg' hs6 hg6 hP
            obtain ⟨r0, r1, r2⟩ := hU7.cells
            obtain ⟨q0, q1, q2, f0, f1, f2⟩ := hU7.tk.cells
            go_wp2
            refine ⟨⟨k + 1, by omega, by omega, rfl, by go_num, .inl ⟨by omega, by rw [show bN m i - (k + 1) + 1 = bN m i - k from by omega]; exact hU7.tk.set _ _ _⟩⟩, ?_⟩
            simp [intOf]; omega
          · obtain rfl : k = bN m i := by omega
            rw [show bN m i - bN m i + 1 = 1 from by omega] at hT
            by_cases h5 : i ≤ 5
            · have h5' : (i : Int) < 6 := by omega
              have h6 : ((i : Int) == 6) = false := by rw [beq_eq_false_iff_ne]; omega
              obtain ⟨r0, r1, r2, f0, f1, f2⟩ := hT.cells
              have rg := hT.row.2 i hlt
              go_wp2_with fail
              refine (tick_say _ _ nb.1 nb.2 (by omega) (by omega) _).mono ?_
              rintro e w6 ⟨rfl, hb6⟩
              have hT6 := hT.later hb6
              clear hT r0 r1 r2 f0 f1 f2 rg hb6
              have rg := hT6.row.2 i hlt
              have hs6 := hT6.below.size
              have hg6 := hT6.row.1
              have hP : w6.heap.size ≠ gb := by omega
              have hU := Tk2.fresh (x' := min (2 * bN m i) 64) (y' := min (2 * bN m i) 64) (z' := (i : Int) + 1) hT6
              clear hT6
              have rg' := hU.tk.row.2 i hlt
              go_wp2
              go_quiet (fail)
              have hU7 := hU.drewN nq
              clear hU rg rg' hs6 hg6 hP
              obtain ⟨r0, r1, r2⟩ := hU7.cells
              obtain ⟨q0, q1, q2, f0, f1, f2⟩ := hU7.tk.cells
              go_wp2
              go_roundw
              case rel => exact ⟨bN m i + 1, by omega, by omega, by go_num, by go_num, .inr ⟨by omega, by rw [bX_succ m i h5, bZ_le (i + 1) (by omega)]; exact hU7.tk.set _ _ _⟩⟩
              case measure => simp [intOf]; omega
            · have H6 : Hid (i = 6) := Lib.hid (by omega)
              have h5' : decide ((i : Int) < 6) = false := decide_eq_false (by omega)
              have h6 : ((i : Int) == 6) = true := by rw [beq_iff_eq]; omega
              clear h5
              obtain ⟨r0, r1, r2, f0, f1, f2⟩ := hT.cells
              have rg := hT.row.2 i hlt
              go_wp2_with fail
              refine (tick_over_i _ _ nb.1 (by have := H6.out; omega) _).mono ?_
              rintro e w6 ⟨rfl, hb6⟩
              have hT6 := hT.later hb6
              clear hT r0 r1 r2 f0 f1 f2 rg hb6
              have rg := hT6.row.2 i hlt
              have hs6 := hT6.below.size
              have hg6 := hT6.row.1
              have hP : w6.heap.size ≠ gb := by omega
              have hU := Tk2.fresh (x' := 0) (y' := 0) (z' := (i : Int)) hT6
              clear hT6
              have rg' := hU.tk.row.2 i hlt
              go_wp2
              go_quiet (fail)
              have hU7 := hU.drewN nq
              clear hU rg rg' hs6 hg6 hP
              obtain ⟨r0, r1, r2⟩ := hU7.cells
              obtain ⟨q0, q1, q2, f0, f1, f2⟩ := hU7.tk.cells
              go_wp2
              go_roundw
              case rel => exact ⟨bN m i + 1, by omega, by omega, by go_num, by go_num, .inr ⟨by omega, by rw [show bX m (i + 1) = 0 from by rw [H6.out]; rfl, show bZ (i + 1) = (i : Int) from by rw [H6.out]; rfl]; exact hU7.tk.set _ _ _⟩⟩
              case measure => simp [intOf]; omega
        · obtain rfl : k = bN m i + 1 := by omega
          have rg := hT.row.2 i hlt
          go_wp2
          go_roundw
          case rel => exact ⟨i + 1, by omega, by go_num, by show Value.int .i64 _ = .int .i64 (bSum m i + bN m i); go_num, hT⟩
          case measure => simp [intOf]; omega
    · obtain rfl : i = 7 := by omega
      have hT0 : Tk w w3.heap.size gb m 0 0 6 wo := hT
      clear hT
      obtain ⟨r0, r1, r2, f0, f1, f2⟩ := hT0.cells
      go_wp2_with fail
      refine (tick_none _ _).mono ?_
      rintro e w8 ⟨rfl, hb8⟩
      have hU := Tk2.fresh (x' := 0) (y' := 0) (z' := 6) (hT0.later hb8)
      clear hT0 r0 r1 r2 f0 f1 f2 hb8
      go_wp2
      go_region_held3 (fun w' => w'.cell? ⟨w3.heap.size, 0, none⟩ = some (.int .i64 0) ∧ w'.cell? ⟨w3.heap.size, 1, none⟩ = some (.int .i64 0) ∧ w'.cell? ⟨w3.heap.size, 2, none⟩ = some (.int .i64 6) ∧ w'.cell? ⟨w8.heap.size, 0, none⟩ = some (.int .i64 0) ∧ w'.cell? ⟨w8.heap.size, 1, none⟩ = some (.int .i64 0) ∧ w'.cell? ⟨w8.heap.size, 2, none⟩ = some (.int .i64 6) ∧ Tk2 w w3.heap.size gb w8.heap.size m 0 0 6 0 0 6 w')
        (first | exact hU.drewn.both | exact Tk2.keepBoth (by assumption) (by assumption) | go_keep)
        (first | (go_at_call 15; refine (waits_no _ _).mono ?_; rintro e w9 ⟨rfl, hb⟩) | (go_at_call 16; refine (tries_any _ _ _ _).mono ?_; rintro e w9 ⟨rfl, hb⟩) | (go_at_call 17; refine (left_any _ _ _ _).mono ?_; rintro e w9 ⟨rfl, hb⟩) | (go_at_call 19; refine (longest_any _ m HM.out _).mono ?_; rintro e w9 ⟨rfl, hb⟩))
      obtain ⟨-, -, -, -, -, -, hU7⟩ := (show w9.cell? ⟨w3.heap.size, 0, none⟩ = some (.int .i64 0) ∧ w9.cell? ⟨w3.heap.size, 1, none⟩ = some (.int .i64 0) ∧ w9.cell? ⟨w3.heap.size, 2, none⟩ = some (.int .i64 6) ∧ w9.cell? ⟨w8.heap.size, 0, none⟩ = some (.int .i64 0) ∧ w9.cell? ⟨w8.heap.size, 1, none⟩ = some (.int .i64 0) ∧ w9.cell? ⟨w8.heap.size, 2, none⟩ = some (.int .i64 6) ∧ Tk2 w w3.heap.size gb w8.heap.size m 0 0 6 0 0 6 w9 from by assumption)
      go_wp2
      go_ret
      exact ⟨rfl, hU7.tk.below⟩

end Go.Proofs.Ytafmkalepgcnkaa
