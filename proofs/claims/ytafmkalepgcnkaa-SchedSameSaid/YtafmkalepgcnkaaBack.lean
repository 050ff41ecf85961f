/-
  Walks over package backoff: each function once, by a contract.
-/
import Derived.Test.YtafmkalepgcnkaaChecked
import Derived.Test.YtafmkalepgcnkaaPlain
import Derived.WalkKit
import Derived.Handy
import Derived.WalkLawsBesides
import Derived.Outline
import Derived.Lib.Hide
import Derived.OwnWalk
import Derived.Laws.AppendOwn
namespace Go.Proofs.Ytafmkalepgcnkaa
open Go.RowKit

/-- It waits, if its wait is no less than 1. -/
theorem waits_yes (wt lf tr : Int) (h : 1 ≤ wt) (w : World) : Calls Try.prog 15 #[.agg #[.int .i64 wt, .int .i64 lf, .int .i64 tr]] w fun e w' => e = .returned (.bool true) ∧ Below w.heap.size w w' := by
  have h1 : (wt == 0) = false := by rw [beq_eq_false_iff_ne]; omega
  go_enter Try.func15, Try.ntmps15
  go_wp2
  go_ret
  exact ⟨rfl, (Below.refl _ _).alloc (Nat.le_refl _) _⟩

theorem waits_no (tr : Int) (w : World) : Calls Try.prog 15 #[.agg #[.int .i64 0, .int .i64 0, .int .i64 tr]] w fun e w' => e = .returned (.bool false) ∧ Below w.heap.size w w' := by
  go_enter Try.func15, Try.ntmps15
  go_wp2
  go_ret
  exact ⟨rfl, (Below.refl _ _).alloc (Nat.le_refl _) _⟩

theorem tries_any (wt lf tr : Int) (w : World) : Calls Try.prog 16 #[.agg #[.int .i64 wt, .int .i64 lf, .int .i64 tr]] w fun e w' => e = .returned (.int .i64 tr) ∧ Below w.heap.size w w' := by
  go_enter Try.func16, Try.ntmps16
  go_wp2
  go_ret
  exact ⟨rfl, (Below.refl _ _).alloc (Nat.le_refl _) _⟩

theorem left_any (wt lf tr : Int) (w : World) : Calls Try.prog 17 #[.agg #[.int .i64 wt, .int .i64 lf, .int .i64 tr]] w fun e w' => e = .returned (.int .i64 lf) ∧ Below w.heap.size w w' := by
  go_enter Try.func17, Try.ntmps17
  go_wp2
  go_ret
  exact ⟨rfl, (Below.refl _ _).alloc (Nat.le_refl _) _⟩

theorem begin_any (ticks : Int) (w : World) : Calls Try.prog 14 #[.int .i64 ticks] w fun e w' => e = .returned (.agg #[.int .i64 (bFirst ticks), .int .i64 (bFirst ticks), .int .i64 0]) ∧ Below w.heap.size w w' := by
  have hc : (ticks < 1 ∧ Hid (bFirst ticks = 1)) ∨ (1 ≤ ticks ∧ ticks ≤ 64 ∧ Hid (bFirst ticks = ticks)) ∨ (64 < ticks ∧ Hid (bFirst ticks = 64)) := by
    unfold Hid bFirst; omega
  rcases hc with ⟨h1, H⟩ | ⟨h1, h2, H⟩ | ⟨h1, H⟩
  all_goals
    go_enter Try.func14, Try.ntmps14
    go_wp2
    rw [H.out]
    refine bodyPost_ret ?_ rfl ⟨rfl, (Below.refl _ _).alloc (Nat.le_refl _) _⟩
    simp [results, Try.results14, go_sem]

/-- A tick, of one that waits longer. -/
theorem tick_on (wt lf tr : Int) (h : 1 ≤ wt) (h1 : 2 ≤ lf) (h2 : lf ≤ 64) (w : World) : Calls Try.prog 18 #[.agg #[.int .i64 wt, .int .i64 lf, .int .i64 tr]] w fun e w' =>
    e = .returned (.tuple #[.agg #[.int .i64 wt, .int .i64 (lf - 1), .int .i64 tr], .bool false, .bool false]) ∧ Below w.heap.size w w' := by
  have h3 : (wt == 0) = false := by rw [beq_eq_false_iff_ne]; omega
  go_enter Try.func18, Try.ntmps18
  go_wp2
  go_returns
  refine ⟨rfl, ?_⟩
  go_grown

/-- A tick, of one that is said again. -/
theorem tick_say (wt tr : Int) (h : 1 ≤ wt) (h2 : wt ≤ 64) (h0 : 0 ≤ tr) (h4 : tr ≤ 5) (w : World) : Calls Try.prog 18 #[.agg #[.int .i64 wt, .int .i64 1, .int .i64 tr]] w fun e w' =>
    e = .returned (.tuple #[.agg #[.int .i64 (min (2 * wt) 64), .int .i64 (min (2 * wt) 64), .int .i64 (tr + 1)], .bool true, .bool false]) ∧ Below w.heap.size w w' := by
  have h3 : (wt == 0) = false := by rw [beq_eq_false_iff_ne]; omega
  by_cases hm : 2 * wt ≤ 64
  · have M : Hid (min (2 * wt) 64 = 2 * wt) := Lib.hid (by omega)
    rw [M.out]
    go_enter Try.func18, Try.ntmps18
    go_wp2
    go_returns
    refine ⟨rfl, ?_⟩
    go_grown
  · have M : Hid (min (2 * wt) 64 = 64) := Lib.hid (by omega)
    rw [M.out]
    go_enter Try.func18, Try.ntmps18
    go_wp2
    go_returns
    refine ⟨rfl, ?_⟩
    go_grown

/-- A tick, of one that is given up. -/
theorem tick_over (wt : Int) (h : 1 ≤ wt) (w : World) : Calls Try.prog 18 #[.agg #[.int .i64 wt, .int .i64 1, .int .i64 6]] w fun e w' =>
    e = .returned (.tuple #[.agg #[.int .i64 0, .int .i64 0, .int .i64 6], .bool false, .bool true]) ∧ Below w.heap.size w w' := by
  have h3 : (wt == 0) = false := by rw [beq_eq_false_iff_ne]; omega
  go_enter Try.func18, Try.ntmps18
  go_wp2
  go_returns
  refine ⟨rfl, ?_⟩
  go_grown

/-- A tick, of one that does not wait. -/
theorem tick_none (tr : Int) (w : World) : Calls Try.prog 18 #[.agg #[.int .i64 0, .int .i64 0, .int .i64 tr]] w fun e w' =>
    e = .returned (.tuple #[.agg #[.int .i64 0, .int .i64 0, .int .i64 tr], .bool false, .bool false]) ∧ Below w.heap.size w w' := by
  go_enter Try.func18, Try.ntmps18
  go_wp2
  go_returns
  refine ⟨rfl, ?_⟩
  go_grown

end Go.Proofs.Ytafmkalepgcnkaa
