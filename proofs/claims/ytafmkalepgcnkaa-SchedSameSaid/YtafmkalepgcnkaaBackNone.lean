/-
  The law BackoffNone, walked: it returns true and leaves all that was there as it was.
-/
import Derived.Test.YtafmkalepgcnkaaLong
import Derived.Deep.QuietTactic
import Derived.Deep.RegionHeld3
import Derived.BigQuiet
import Derived.Deep.DeepCutAuto
namespace Go.Proofs.Ytafmkalepgcnkaa
open Go.RowKit

theorem ret_int {k : IntKind} {a b : Int} (h : a = b) : Ending.returned (.int k a) = .returned (.int k b) := by rw [h]
theorem ret_bool {a b : Bool} (h : a = b) : Ending.returned (.bool a) = .returned (.bool b) := by rw [h]

theorem works17 (w : World) : Calls Try.prog 12 #[] w fun e w' => e = .returned (.bool true) ∧ Below w.heap.size w w' := by
  have h7 : bSum 1 7 = 127 := by decide
  go_enter Try.func12, Try.ntmps12
  go_wp2_with (first | (go_at_call 19; refine (longest_any _ 1 (by decide) _).mono ?_; rintro e w' ⟨rfl, hb⟩) | (go_at_call 14; go_in) | (go_at_call 18; go_in) | (go_at_call 15; go_in) | (go_at_call 16; go_in) | (go_at_call 17; go_in))
  go_ret
  refine ⟨rfl, ?_⟩
  refine Below.trans ?_ (hb.mono ?_)
  · go_grown
  · simp; omega

/-- Where one that has begun can stand. -/
def Stands (wt lf tr : Int) : Prop := (1 ≤ wt ∧ wt ≤ 64 ∧ 1 ≤ lf ∧ lf ≤ 64 ∧ 0 ≤ tr ∧ tr ≤ 6) ∨ (wt = 0 ∧ lf = 0 ∧ tr = 6)

/-- A tick, of one that has begun: what comes of it hangs on nothing else. -/
theorem tick_ok {wt lf tr : Int} (h : Stands wt lf tr) : ∃ (x y z : Int) (s o : Bool), Stands x y z ∧
    Hid (∀ w, Calls Try.prog 18 #[.agg #[.int .i64 wt, .int .i64 lf, .int .i64 tr]] w fun e w' => e = .returned (.tuple #[.agg #[.int .i64 x, .int .i64 y, .int .i64 z], .bool s, .bool o]) ∧ Below w.heap.size w w') := by
  rcases h with ⟨h1, h2, h3, h4, h5, h6⟩ | ⟨rfl, rfl, rfl⟩
  · by_cases hl : 2 ≤ lf
    · exact ⟨wt, lf - 1, tr, false, false, .inl ⟨h1, h2, by omega, by omega, h5, h6⟩, fun w => tick_on wt lf tr h1 hl h4 w⟩
    · obtain rfl : lf = 1 := by omega
      by_cases ht : tr = 6
      · subst ht
        exact ⟨0, 0, 6, false, true, .inr ⟨rfl, rfl, rfl⟩, fun w => tick_over wt h1 w⟩
      · exact ⟨_, _, _, true, false, .inl ⟨by omega, by omega, by omega, by omega, by omega, by omega⟩, fun w => tick_say wt tr h1 h2 h5 (by omega) w⟩
  · exact ⟨0, 0, 6, false, false, .inr ⟨rfl, rfl, rfl⟩, fun w => tick_none 6 w⟩

theorem waits_ok {wt lf tr : Int} (h : Stands wt lf tr) : ∃ b : Bool, Hid (∀ w, Calls Try.prog 15 #[.agg #[.int .i64 wt, .int .i64 lf, .int .i64 tr]] w fun e w' => e = .returned (.bool b) ∧ Below w.heap.size w w') := by
  rcases h with ⟨h1, _⟩ | ⟨rfl, rfl, rfl⟩
  · exact ⟨true, fun w => waits_yes wt lf tr h1 w⟩
  · exact ⟨false, fun w => waits_no 6 w⟩

/-- The cells of two structs, kept behind a call. -/
theorem two_keep {w0 wx w' : World} {bx by_ : Nat} {c0 c1 c2 d0 d1 d2 : Value}
    (h : wx.cell? ⟨bx, 0, none⟩ = some c0 ∧ wx.cell? ⟨bx, 1, none⟩ = some c1 ∧ wx.cell? ⟨bx, 2, none⟩ = some c2 ∧ wx.cell? ⟨by_, 0, none⟩ = some d0 ∧ wx.cell? ⟨by_, 1, none⟩ = some d1 ∧ wx.cell? ⟨by_, 2, none⟩ = some d2 ∧ bx < wx.heap.size ∧ by_ < wx.heap.size ∧ Below w0.heap.size w0 wx)
    (hb : Below wx.heap.size wx w') :
    w'.cell? ⟨bx, 0, none⟩ = some c0 ∧ w'.cell? ⟨bx, 1, none⟩ = some c1 ∧ w'.cell? ⟨bx, 2, none⟩ = some c2 ∧ w'.cell? ⟨by_, 0, none⟩ = some d0 ∧ w'.cell? ⟨by_, 1, none⟩ = some d1 ∧ w'.cell? ⟨by_, 2, none⟩ = some d2 ∧ bx < w'.heap.size ∧ by_ < w'.heap.size ∧ Below w0.heap.size w0 w' := by
  obtain ⟨h0, h1, h2, h3, h4, h5, h7, h8, h9⟩ := h
  have hs := hb.size
  exact ⟨(hb.cell (p := ⟨bx, 0, none⟩) h7).trans h0, (hb.cell (p := ⟨bx, 1, none⟩) h7).trans h1, (hb.cell (p := ⟨bx, 2, none⟩) h7).trans h2,
    (hb.cell (p := ⟨by_, 0, none⟩) h8).trans h3, (hb.cell (p := ⟨by_, 1, none⟩) h8).trans h4, (hb.cell (p := ⟨by_, 2, none⟩) h8).trans h5, by omega, by omega, h9.trans (hb.mono h9.size)⟩

/-- Two new structs, one behind the other, with a call between. -/
theorem two_new {w0 w1 w2 : World} {x y z x' y' z' : Int} (hb : Below w0.heap.size w0 w1) (hb2 : Below (w1.alloc (.cells #[.int .i64 x, .int .i64 y, .int .i64 z] 26)).heap.size (w1.alloc (.cells #[.int .i64 x, .int .i64 y, .int .i64 z] 26)) w2) :
    (w2.alloc (.cells #[.int .i64 x', .int .i64 y', .int .i64 z'] 26)).cell? ⟨w1.heap.size, 0, none⟩ = some (.int .i64 x) ∧ (w2.alloc (.cells #[.int .i64 x', .int .i64 y', .int .i64 z'] 26)).cell? ⟨w1.heap.size, 1, none⟩ = some (.int .i64 y) ∧
    (w2.alloc (.cells #[.int .i64 x', .int .i64 y', .int .i64 z'] 26)).cell? ⟨w1.heap.size, 2, none⟩ = some (.int .i64 z) ∧ (w2.alloc (.cells #[.int .i64 x', .int .i64 y', .int .i64 z'] 26)).cell? ⟨w2.heap.size, 0, none⟩ = some (.int .i64 x') ∧
    (w2.alloc (.cells #[.int .i64 x', .int .i64 y', .int .i64 z'] 26)).cell? ⟨w2.heap.size, 1, none⟩ = some (.int .i64 y') ∧ (w2.alloc (.cells #[.int .i64 x', .int .i64 y', .int .i64 z'] 26)).cell? ⟨w2.heap.size, 2, none⟩ = some (.int .i64 z') ∧
    w1.heap.size < (w2.alloc (.cells #[.int .i64 x', .int .i64 y', .int .i64 z'] 26)).heap.size ∧ w2.heap.size < (w2.alloc (.cells #[.int .i64 x', .int .i64 y', .int .i64 z'] 26)).heap.size ∧ Below w0.heap.size w0 (w2.alloc (.cells #[.int .i64 x', .int .i64 y', .int .i64 z'] 26)) := by
  have e1 : (w1.alloc (.cells #[.int .i64 x, .int .i64 y, .int .i64 z] 26)).heap[w1.heap.size]? = some (.cells #[.int .i64 x, .int .i64 y, .int .i64 z] 26 (0, 0)) := heap_alloc_new w1 _
  have s1 : (w1.alloc (.cells #[.int .i64 x, .int .i64 y, .int .i64 z] 26)).heap.size = w1.heap.size + 1 := by simp
  have s2 := hb2.size
  have e2 := (hb2.block w1.heap.size (by omega)).trans e1
  have e3 : (w2.alloc (.cells #[.int .i64 x', .int .i64 y', .int .i64 z'] 26)).heap[w1.heap.size]? = some (.cells #[.int .i64 x, .int .i64 y, .int .i64 z] 26 (0, 0)) := (Below.heap_alloc w2 _ _ (by omega)).trans e2
  have e4 : (w2.alloc (.cells #[.int .i64 x', .int .i64 y', .int .i64 z'] 26)).heap[w2.heap.size]? = some (.cells #[.int .i64 x', .int .i64 y', .int .i64 z'] 26 (0, 0)) := heap_alloc_new w2 _
  have hs := hb.size
  refine ⟨by rw [cell_of_row _ _ _ _ _ _ e3]; rfl, by rw [cell_of_row _ _ _ _ _ _ e3]; rfl, by rw [cell_of_row _ _ _ _ _ _ e3]; rfl, by rw [cell_of_row _ _ _ _ _ _ e4]; rfl, by rw [cell_of_row _ _ _ _ _ _ e4]; rfl, by rw [cell_of_row _ _ _ _ _ _ e4]; rfl, by simp; omega, by simp, ?_⟩
  exact Below.alloc ((hb.alloc hs _).trans (hb2.mono (by omega))) (by omega) _

theorem lt_block {w : World} {b : Nat} {o : Obj} (h : w.heap[b]? = some o) : b < w.heap.size := (Array.getElem?_eq_some_iff.1 h).1

/-- A store into a block of cells. -/
theorem row_setCell {w : World} {b j : Nat} {cs : Array Value} {t : TypeId} {fr : Nat × Nat} (v : Value) (h : w.heap[b]? = some (.cells cs t fr)) : (w.setCell ⟨b, j, none⟩ v).heap[b]? = some (.cells (cs.setIfInBounds j v) t fr) := by
  have hlt := lt_block h
  have h' : w.heap[b] = .cells cs t fr := by simpa [Array.getElem?_eq_getElem hlt] using h
  show (w.heap.modify b _)[b]? = _
  rw [Array.getElem?_eq_getElem (by simpa using hlt), Array.getElem_modify_self, h']
  rfl

/-- All three fields are stored anew. -/
theorem set3 {w : World} {b : Nat} {c0 c1 c2 x y z : Value} {t : TypeId} {fr : Nat × Nat} (h : w.heap[b]? = some (.cells #[c0, c1, c2] t fr)) :
    (((w.setCell ⟨b, 0, none⟩ x).setCell ⟨b, 1, none⟩ y).setCell ⟨b, 2, none⟩ z).heap[b]? = some (.cells #[x, y, z] t fr) :=
  row_setCell z (row_setCell y (row_setCell x h))

/-- Another block is as it was. -/
theorem set3_other {w : World} {b b' : Nat} {x y z : Value} (hne : b' ≠ b) :
    (((w.setCell ⟨b, 0, none⟩ x).setCell ⟨b, 1, none⟩ y).setCell ⟨b, 2, none⟩ z).heap[b']? = w.heap[b']? := by
  rw [Below.heap_setCell _ _ _ _ hne, Below.heap_setCell _ _ _ _ hne, Below.heap_setCell _ _ _ _ hne]

/-- Two structs of the same fields, in two blocks of the call's own. -/
structure Twice (w0 : World) (bx by_ : Nat) (x y z x' y' z' : Int) (wr : World) : Prop where
  one : wr.heap[bx]? = some (.cells #[.int .i64 x, .int .i64 y, .int .i64 z] 26 (0, 0))
  two : wr.heap[by_]? = some (.cells #[.int .i64 x', .int .i64 y', .int .i64 z'] 26 (0, 0))
  below : Below w0.heap.size w0 wr
  lo1 : w0.heap.size ≤ bx
  lo2 : w0.heap.size ≤ by_
  ne : bx ≠ by_

section
variable {w0 w1 w' : World} {bx by_ : Nat} {x y z x' y' z' : Int}
theorem Twice.later (h : Twice w0 bx by_ x y z x' y' z' w1) (hb : Below w1.heap.size w1 w') : Twice w0 bx by_ x y z x' y' z' w' :=
  ⟨(hb.block _ (lt_block h.one)).trans h.one, (hb.block _ (lt_block h.two)).trans h.two, h.below.trans (hb.mono h.below.size), h.lo1, h.lo2, h.ne⟩
theorem Twice.fresh (hb : Below w0.heap.size w0 w1) : Twice w0 w1.heap.size (w1.heap.size + 1) x y z x' y' z' ((w1.alloc (.cells #[.int .i64 x, .int .i64 y, .int .i64 z] 26)).alloc (.cells #[.int .i64 x', .int .i64 y', .int .i64 z'] 26)) := by
  have hs := hb.size
  refine ⟨?_, ?_, (hb.alloc hs _).alloc (by simp; omega) _, hs, by omega, by omega⟩
  · rw [Below.heap_alloc _ _ _ (by simp)]; exact heap_alloc_new w1 _
  · have := heap_alloc_new (w1.alloc (.cells #[.int .i64 x, .int .i64 y, .int .i64 z] 26)) (.cells #[.int .i64 x', .int .i64 y', .int .i64 z'] 26)
    rw [show (w1.alloc (.cells #[.int .i64 x, .int .i64 y, .int .i64 z] 26)).heap.size = w1.heap.size + 1 from by simp] at this
    exact this
theorem Twice.set1 (h : Twice w0 bx by_ x y z x' y' z' w1) (a b c : Int) : Twice w0 bx by_ a b c x' y' z' (((w1.setCell ⟨bx, 0, none⟩ (.int .i64 a)).setCell ⟨bx, 1, none⟩ (.int .i64 b)).setCell ⟨bx, 2, none⟩ (.int .i64 c)) :=
  ⟨set3 h.one, (set3_other h.ne.symm).trans h.two, ((h.below.setCell h.lo1 _).setCell h.lo1 _).setCell h.lo1 _, h.lo1, h.lo2, h.ne⟩
theorem Twice.set2 (h : Twice w0 bx by_ x y z x' y' z' w1) (a b c : Int) : Twice w0 bx by_ x y z a b c (((w1.setCell ⟨by_, 0, none⟩ (.int .i64 a)).setCell ⟨by_, 1, none⟩ (.int .i64 b)).setCell ⟨by_, 2, none⟩ (.int .i64 c)) :=
  ⟨(set3_other h.ne).trans h.one, set3 h.two, ((h.below.setCell h.lo2 _).setCell h.lo2 _).setCell h.lo2 _, h.lo1, h.lo2, h.ne⟩
theorem Twice.cells (h : Twice w0 bx by_ x y z x' y' z' w1) :
    w1.cell? ⟨bx, 0, none⟩ = some (.int .i64 x) ∧ w1.cell? ⟨bx, 1, none⟩ = some (.int .i64 y) ∧ w1.cell? ⟨bx, 2, none⟩ = some (.int .i64 z) ∧ w1.cell? ⟨by_, 0, none⟩ = some (.int .i64 x') ∧ w1.cell? ⟨by_, 1, none⟩ = some (.int .i64 y') ∧ w1.cell? ⟨by_, 2, none⟩ = some (.int .i64 z') ∧
    w1.frozen? ⟨bx, 0, none⟩ = false ∧ w1.frozen? ⟨bx, 1, none⟩ = false ∧ w1.frozen? ⟨bx, 2, none⟩ = false ∧ w1.frozen? ⟨by_, 0, none⟩ = false ∧ w1.frozen? ⟨by_, 1, none⟩ = false ∧ w1.frozen? ⟨by_, 2, none⟩ = false :=
  ⟨by rw [cell_of_row _ _ _ _ _ _ h.one]; rfl, by rw [cell_of_row _ _ _ _ _ _ h.one]; rfl, by rw [cell_of_row _ _ _ _ _ _ h.one]; rfl, by rw [cell_of_row _ _ _ _ _ _ h.two]; rfl, by rw [cell_of_row _ _ _ _ _ _ h.two]; rfl, by rw [cell_of_row _ _ _ _ _ _ h.two]; rfl,
    frozen_of_row _ _ _ _ _ h.one, frozen_of_row _ _ _ _ _ h.one, frozen_of_row _ _ _ _ _ h.one, frozen_of_row _ _ _ _ _ h.two, frozen_of_row _ _ _ _ _ h.two, frozen_of_row _ _ _ _ _ h.two⟩
/-- The same, as a region that draws its order asks for it. -/
theorem Twice.held (h : Twice w0 bx by_ x y z x' y' z' w1) :
    w1.cell? ⟨bx, 0, none⟩ = some (.int .i64 x) ∧ w1.cell? ⟨bx, 1, none⟩ = some (.int .i64 y) ∧ w1.cell? ⟨bx, 2, none⟩ = some (.int .i64 z) ∧ w1.cell? ⟨by_, 0, none⟩ = some (.int .i64 x') ∧ w1.cell? ⟨by_, 1, none⟩ = some (.int .i64 y') ∧ w1.cell? ⟨by_, 2, none⟩ = some (.int .i64 z') ∧
    Twice w0 bx by_ x y z x' y' z' w1 :=
  ⟨h.cells.1, h.cells.2.1, h.cells.2.2.1, h.cells.2.2.2.1, h.cells.2.2.2.2.1, h.cells.2.2.2.2.2.1, h⟩
theorem Twice.keep (h : w1.cell? ⟨bx, 0, none⟩ = some (.int .i64 x) ∧ w1.cell? ⟨bx, 1, none⟩ = some (.int .i64 y) ∧ w1.cell? ⟨bx, 2, none⟩ = some (.int .i64 z) ∧ w1.cell? ⟨by_, 0, none⟩ = some (.int .i64 x') ∧ w1.cell? ⟨by_, 1, none⟩ = some (.int .i64 y') ∧ w1.cell? ⟨by_, 2, none⟩ = some (.int .i64 z') ∧
    Twice w0 bx by_ x y z x' y' z' w1) (hb : Below w1.heap.size w1 w') : w'.cell? ⟨bx, 0, none⟩ = some (.int .i64 x) ∧ w'.cell? ⟨bx, 1, none⟩ = some (.int .i64 y) ∧ w'.cell? ⟨bx, 2, none⟩ = some (.int .i64 z) ∧ w'.cell? ⟨by_, 0, none⟩ = some (.int .i64 x') ∧ w'.cell? ⟨by_, 1, none⟩ = some (.int .i64 y') ∧ w'.cell? ⟨by_, 2, none⟩ = some (.int .i64 z') ∧
    Twice w0 bx by_ x y z x' y' z' w' := (h.2.2.2.2.2.2.later hb).held
theorem Twice.drewn (h : Twice w0 bx by_ x y z x' y' z' w1) : Twice w0 bx by_ x y z x' y' z' w1.drew := h.later ((Below.refl _ _).drew)
end

theorem below_drewN {B : Nat} {a w : World} (n : Nat) (h : Below B a w) : Below B a (w.drewN n) := h.trans ⟨rfl, rfl, rfl, Nat.le_refl _, fun _ _ => rfl⟩

/-- The greater, the lesser of two: behind names, so that a walk does not part at them. -/
def mx2 (x y : Int) : Int := max x y
def mn2 (x y : Int) : Int := min x y
theorem run_mx (ts : Array TypeId) (t : TypeId) (x y : Int) (w : World) : (Builtin.max_ ts t #[.int .i64 x, .int .i64 y]).run Try.prog w = .ok (.int .i64 (mx2 x y)) w := by
  rw [run_max_int2, show (if y > x then y else x) = mx2 x y from by unfold mx2; split <;> omega]
theorem run_mn (ts : Array TypeId) (t : TypeId) (x y : Int) (w : World) : (Builtin.min_ ts t #[.int .i64 x, .int .i64 y]).run Try.prog w = .ok (.int .i64 (mn2 x y)) w := by
  rw [run_min_int2, show (if y < x then y else x) = mn2 x y from by unfold mn2; split <;> omega]
theorem bFirst_mn (t : Int) : mn2 (mx2 t 1) 64 = bFirst t := rfl

set_option maxRecDepth 100000 in
set_option maxHeartbeats 1000000 in
theorem none_any (ticks other : Int) (w : World) : Calls Try.prog 4 #[.int .i64 ticks, .int .i64 other] w fun e w' => e = .returned (.bool true) ∧ Below w.heap.size w w' := by
  obtain ⟨m, hm⟩ : ∃ m, bFirst ticks = m := ⟨_, rfl⟩
  obtain ⟨n, hn⟩ : ∃ n, bFirst other = n := ⟨_, rfl⟩
  have m1 := bFirst_lo ticks
  have m2 := bFirst_hi ticks
  have n1 := bFirst_lo other
  have n2 := bFirst_hi other
  rw [hm] at m1 m2
  rw [hn] at n1 n2
  have HM := Lib.hid hm
  have HN := Lib.hid hn
  rw [← bFirst_mn] at hm hn
  have hm' := HM.out
  have hn' := HN.out
  have hmx := run_mx
  have hmn := run_mn
  have hcase : m = n ∨ (m == n) = false := by
    rcases Decidable.em (m = n) with h | h
    · exact .inl h
    · exact .inr (by rw [beq_eq_false_iff_ne]; exact h)
  rcases hcase with rfl | hne
  all_goals
    go_enter Try.func4, Try.ntmps4
    go_upto_region 6 with (first | (go_at_call 12; refine (works17 _).mono ?_; rintro e w1 ⟨rfl, hb⟩) | (go_at_call 18; refine (tick_none _ _).mono ?_; rintro e w2 ⟨rfl, hb2⟩))
    have hS := two_new (x' := 0) (y' := 0) (z' := 0) hb hb2
    clear hb hb2
    obtain ⟨c0, c1, c2, d0, d1, d2, -, -, hbw⟩ := id hS
    go_upto_region 8 with (first
      | (go_at_call 15; refine (waits_no _ _).mono ?_; rintro e w3 ⟨rfl, hb⟩; have hS' := two_keep hS hb; clear hS c0 c1 c2 d0 d1 d2 hbw hb; have hS := hS'; obtain ⟨c0, c1, c2, d0, d1, d2, -, -, hbw⟩ := hS')
      | (go_at_call 16; refine (tries_any _ _ _ _).mono ?_; rintro e w3 ⟨rfl, hb⟩; have hS' := two_keep hS hb; clear hS c0 c1 c2 d0 d1 d2 hbw hb; have hS := hS'; obtain ⟨c0, c1, c2, d0, d1, d2, -, -, hbw⟩ := hS')
      | (go_at_call 17; refine (left_any _ _ _ _).mono ?_; rintro e w3 ⟨rfl, hb⟩; have hS' := two_keep hS hb; clear hS c0 c1 c2 d0 d1 d2 hbw hb; have hS := hS'; obtain ⟨c0, c1, c2, d0, d1, d2, -, -, hbw⟩ := hS'))
    clear hS c0 c1 c2 d0 d1 d2 hmx hmn hm hn
    go_upto_region 9 with (first
      | (go_at_call 14; refine (begin_any _ _).mono ?_; rintro e w4 ⟨rfl, hb⟩; have hbw' := hbw.trans (hb.mono hbw.size); clear hbw hb; have hbw := hbw'; clear hbw'))
    go_wp2_with fail
  · have hT := Twice.fresh (x := m) (y := m) (z := 0) (x' := m) (y' := m) (z' := 0) hbw
    clear hbw hm' hn'
    go_loopw [12] (fun i wr => ∃ k : Nat, k ≤ 500 ∧ i = .int .i64 k ∧ ∃ wt lf tr, Stands wt lf tr ∧ Twice w w4.heap.size (w4.heap.size + 1) wt lf tr wt lf tr wr) (fun i _ => 500 - (intOf i).toNat)
    case atStart => exact ⟨0, by omega, rfl, m, m, 0, .inl ⟨m1, m2, m1, m2, by omega, by omega⟩, hT⟩
    case round =>
      clear hT
      obtain ⟨k, hk, rfl, wt, lf, tr, hst, hT⟩ := hrel
      by_cases hlt : k < 500
      · obtain ⟨x, y, z, sy, ov, hst', HT⟩ := tick_ok hst
        obtain ⟨bw, HW⟩ := waits_ok hst
        go_wp2
        go_region_held3 (fun w' => w'.cell? ⟨w4.heap.size, 0, none⟩ = some (.int .i64 wt) ∧ w'.cell? ⟨w4.heap.size, 1, none⟩ = some (.int .i64 lf) ∧ w'.cell? ⟨w4.heap.size, 2, none⟩ = some (.int .i64 tr) ∧
            w'.cell? ⟨w4.heap.size + 1, 0, none⟩ = some (.int .i64 wt) ∧ w'.cell? ⟨w4.heap.size + 1, 1, none⟩ = some (.int .i64 lf) ∧ w'.cell? ⟨w4.heap.size + 1, 2, none⟩ = some (.int .i64 tr) ∧ Twice w w4.heap.size (w4.heap.size + 1) wt lf tr wt lf tr w')
          (first | exact hT.drewn.held | exact Twice.keep (by assumption) (by assumption) | go_keep)
          (first | (go_at_call 15; refine (HW.out _).mono ?_; rintro e w5 ⟨rfl, hb⟩) | (go_at_call 16; refine (tries_any _ _ _ _).mono ?_; rintro e w5 ⟨rfl, hb⟩) | (go_at_call 17; refine (left_any _ _ _ _).mono ?_; rintro e w5 ⟨rfl, hb⟩))
        obtain ⟨-, -, -, -, -, -, hT5⟩ := (show w5.cell? ⟨w4.heap.size, 0, none⟩ = some (.int .i64 wt) ∧ w5.cell? ⟨w4.heap.size, 1, none⟩ = some (.int .i64 lf) ∧ w5.cell? ⟨w4.heap.size, 2, none⟩ = some (.int .i64 tr) ∧
            w5.cell? ⟨w4.heap.size + 1, 0, none⟩ = some (.int .i64 wt) ∧ w5.cell? ⟨w4.heap.size + 1, 1, none⟩ = some (.int .i64 lf) ∧ w5.cell? ⟨w4.heap.size + 1, 2, none⟩ = some (.int .i64 tr) ∧ Twice w w4.heap.size (w4.heap.size + 1) wt lf tr wt lf tr w5 from by assumption)
        clear hT
        obtain ⟨r0, r1, r2, r3, r4, r5, f0, f1, f2, f3, f4, f5⟩ := hT5.cells
        go_wp2_with fail
        refine (HT.out _).mono ?_
        rintro e w6 ⟨rfl, hb6⟩
        have hT6 := hT5.later hb6
        clear hT5 r0 r1 r2 r3 r4 r5 f0 f1 f2 f3 f4 f5 hb6
        obtain ⟨r0, r1, r2, r3, r4, r5, f0, f1, f2, f3, f4, f5⟩ := hT6.cells
        go_wp2_with fail
        refine (HT.out _).mono ?_
        rintro e w7 ⟨rfl, hb7⟩
        have hT7 := (hT6.set1 x y z).later hb7
        clear hT6 r0 r1 r2 r3 r4 r5 f0 f1 f2 f3 f4 f5 hb7
        obtain ⟨r0, r1, r2, r3, r4, r5, f0, f1, f2, f3, f4, f5⟩ := hT7.cells
        go_wp2
        go_roundw
        case rel => exact ⟨k + 1, by omega, by go_num, x, y, z, hst', hT7.set2 x y z⟩
        case measure => simp [intOf]; omega
      · obtain rfl : k = 500 := by omega
        go_wp2
        go_quiet (fail)
        go_wp2
        go_ret
        exact ⟨rfl, below_drewN _ hT.below⟩
  · have hT := Twice.fresh (x := m) (y := m) (z := 0) (x' := n) (y' := n) (z' := 0) hbw
    clear hbw hm' hn'
    refine wp_loop_rounds 1 ?_
    rw [rounds_succ]
    go_wp2
    go_region_held3 (fun w' => w'.cell? ⟨w4.heap.size, 0, none⟩ = some (.int .i64 m) ∧ w'.cell? ⟨w4.heap.size, 1, none⟩ = some (.int .i64 m) ∧ w'.cell? ⟨w4.heap.size, 2, none⟩ = some (.int .i64 0) ∧
        w'.cell? ⟨w4.heap.size + 1, 0, none⟩ = some (.int .i64 n) ∧ w'.cell? ⟨w4.heap.size + 1, 1, none⟩ = some (.int .i64 n) ∧ w'.cell? ⟨w4.heap.size + 1, 2, none⟩ = some (.int .i64 0) ∧ Twice w w4.heap.size (w4.heap.size + 1) m m 0 n n 0 w')
      (first | exact hT.drewn.held | exact Twice.keep (by assumption) (by assumption) | go_keep)
      (first | (go_at_call 17; refine (left_any _ _ _ _).mono ?_; rintro e w5 ⟨rfl, hb⟩))
    obtain ⟨-, -, -, -, -, -, hT5⟩ := (show w5.cell? ⟨w4.heap.size, 0, none⟩ = some (.int .i64 m) ∧ w5.cell? ⟨w4.heap.size, 1, none⟩ = some (.int .i64 m) ∧ w5.cell? ⟨w4.heap.size, 2, none⟩ = some (.int .i64 0) ∧
        w5.cell? ⟨w4.heap.size + 1, 0, none⟩ = some (.int .i64 n) ∧ w5.cell? ⟨w4.heap.size + 1, 1, none⟩ = some (.int .i64 n) ∧ w5.cell? ⟨w4.heap.size + 1, 2, none⟩ = some (.int .i64 0) ∧ Twice w w4.heap.size (w4.heap.size + 1) m m 0 n n 0 w5 from by assumption)
    go_wp2
    go_ret
    exact ⟨ret_bool (by rw [bne, hne]; rfl), hT5.below⟩

end Go.Proofs.Ytafmkalepgcnkaa
