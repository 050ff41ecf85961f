/-
  The four laws of layer 2, walked: each returns true. The callees by their contracts.
-/
import Derived.Test.YtpnibmmpagecdaaCirc
namespace Go.Proofs.Ytpnibmmpagecdaa
open Go.RowKit

theorem works02 (w : World) : Calls Try.prog 11 #[] w fun e w' => e = .returned (.bool true) ∧ w = w' := by
  have h1 : cFar 1 281474976710655 = 2 := by decide
  have h2 : cWithin 0 281474976710654 3 = true := by decide
  have h3 : cWithin 4 281474976710654 3 = false := by decide
  have h4 : cOf (-1) = 281474976710655 := by decide
  go_enter Try.func11, Try.ntmps11
  go_wp2_with (first | (go_at_call 12; refine (far_any _ _ _).mono ?_; rintro e w' ⟨rfl, rfl⟩) | (go_at_call 17; refine (within_any _ _ _ _).mono ?_; rintro e w' ⟨rfl, rfl⟩) | (go_at_call 14; refine (of_any _ _).mono ?_; rintro e w' ⟨rfl, rfl⟩))
  go_ret
  exact ⟨rfl, rfl⟩

theorem tells_any (a b n : Int) (w : World) : Calls Try.prog 6 #[.int .i64 a, .int .i64 b, .int .i64 n] w fun e w' => e = .returned (.bool true) ∧ w = w' := by
  go_enter Try.func6, Try.ntmps6
  go_wp2_with (first
    | (go_at_call 11; refine (works02 _).mono ?_; rintro e w' ⟨rfl, rfl⟩)
    | (go_at_call 14; refine (of_any _ _).mono ?_; rintro e w' ⟨rfl, rfl⟩)
    | (go_at_call 18; refine (rof_any _ _).mono ?_; rintro e w' ⟨rfl, rfl⟩)
    | (go_at_call 13; refine (add_any _ _ _).mono ?_; rintro e w' ⟨rfl, rfl⟩)
    | (go_at_call 19; refine (radd_any _ _ _).mono ?_; rintro e w' ⟨rfl, rfl⟩)
    | (go_at_call 12; refine (far_any _ _ _).mono ?_; rintro e w' ⟨rfl, rfl⟩)
    | (go_at_call 20; refine (rfar_any _ _ _).mono ?_; rintro e w' ⟨rfl, rfl⟩)
    | (go_at_call 15; refine (less_any _ _ _).mono ?_; rintro e w' ⟨rfl, rfl⟩)
    | (go_at_call 21; refine (rless_any _ _ _).mono ?_; rintro e w' ⟨rfl, rfl⟩)
    | (go_at_call 22; refine (later_any _ _ _).mono ?_; rintro e w' ⟨rfl, rfl⟩)
    | (go_at_call 23; refine (rlater_any _ _ _).mono ?_; rintro e w' ⟨rfl, rfl⟩)
    | (go_at_call 16; refine (many_any _ _ _).mono ?_; rintro e w' ⟨rfl, rfl⟩)
    | (go_at_call 24; refine (rmany_any _ _ _).mono ?_; rintro e w' ⟨rfl, rfl⟩)
    | (go_at_call 17; refine (within_any _ _ _ _).mono ?_; rintro e w' ⟨rfl, rfl⟩)
    | (go_at_call 25; refine (rwithin_any _ _ _ _).mono ?_; rintro e w' ⟨rfl, rfl⟩))
  all_goals
    go_ret
    exact ⟨rfl, rfl⟩

theorem order_any (a b n : Int) (w : World) : Calls Try.prog 3 #[.int .i64 a, .int .i64 b, .int .i64 n] w fun e w' => e = .returned (.bool true) ∧ w = w' := by
  have k1 := order_back a b
  have k2 := order_shift a b n
  have k3 := cFar_lo a b
  have k4 := cFar_hi a b
  by_cases h0 : cFar a b = 0
  · obtain ⟨t1, t2⟩ := order_tie a b (.inl h0)
    rw [h0] at k1 k2
    rw [Int.add_zero] at k1
    go_enter Try.func3, Try.ntmps3
    go_wp2_with (first
      | (go_at_call 11; refine (works02 _).mono ?_; rintro e w' ⟨rfl, rfl⟩)
      | (go_at_call 14; refine (of_any _ _).mono ?_; rintro e w' ⟨rfl, rfl⟩)
      | (go_at_call 13; refine (add_any _ _ _).mono ?_; rintro e w' ⟨rfl, rfl⟩)
      | (go_at_call 12; refine (far_any _ _ _).mono ?_; rintro e w' ⟨rfl, rfl⟩)
      | (go_at_call 15; refine (less_any _ _ _).mono ?_; rintro e w' ⟨rfl, rfl⟩))
    go_ret
    exact ⟨rfl, rfl⟩
  · by_cases h1 : cFar a b = 140737488355328
    · obtain ⟨t1, t2⟩ := order_tie a b (.inr h1)
      rw [h1] at k1 k2
      clear h0 k3 k4
      go_enter Try.func3, Try.ntmps3
      go_wp2_with (first
        | (go_at_call 11; refine (works02 _).mono ?_; rintro e w' ⟨rfl, rfl⟩)
        | (go_at_call 14; refine (of_any _ _).mono ?_; rintro e w' ⟨rfl, rfl⟩)
        | (go_at_call 13; refine (add_any _ _ _).mono ?_; rintro e w' ⟨rfl, rfl⟩)
        | (go_at_call 12; refine (far_any _ _ _).mono ?_; rintro e w' ⟨rfl, rfl⟩)
        | (go_at_call 15; refine (less_any _ _ _).mono ?_; rintro e w' ⟨rfl, rfl⟩))
      go_ret
      exact ⟨rfl, rfl⟩
    · have t1 : (cLess a b == cLess b a) = false := by simpa using order_other a b h0 h1
      have t2 := order_neg a b h0 h1
      have t3 : (cFar a b == 0) = false := by rw [beq_eq_false_iff_ne]; exact h0
      have t4 : (cFar a b == 140737488355328) = false := by rw [beq_eq_false_iff_ne]; exact h1
      have t5 : (cFar b a == -cFar a b) = true := by rw [t2]; simp
      clear t2 h0 h1
      go_enter Try.func3, Try.ntmps3
      go_wp2_with (first
        | (go_at_call 11; refine (works02 _).mono ?_; rintro e w' ⟨rfl, rfl⟩)
        | (go_at_call 14; refine (of_any _ _).mono ?_; rintro e w' ⟨rfl, rfl⟩)
        | (go_at_call 13; refine (add_any _ _ _).mono ?_; rintro e w' ⟨rfl, rfl⟩)
        | (go_at_call 12; refine (far_any _ _ _).mono ?_; rintro e w' ⟨rfl, rfl⟩)
        | (go_at_call 15; refine (less_any _ _ _).mono ?_; rintro e w' ⟨rfl, rfl⟩))
      go_ret
      exact ⟨rfl, rfl⟩

theorem withins_any (n f t : Int) (w : World) : Calls Try.prog 4 #[.int .i64 n, .int .i64 f, .int .i64 t] w fun e w' => e = .returned (.bool true) ∧ w = w' := by
  have a1 := cOf_lo (t - f)
  have a2 := cOf_hi (t - f)
  have k1 := within_first f t
  have k2 := within_last f t
  have k3 := within_end f t
  by_cases h : cOf (t - f) = 281474976710655
  · have k4 := within_all n f t h
    rw [h] at k3
    clear a1 a2
    go_enter Try.func4, Try.ntmps4
    go_wp2_with (first
      | (go_at_call 11; refine (works02 _).mono ?_; rintro e w' ⟨rfl, rfl⟩)
      | (go_at_call 14; refine (of_any _ _).mono ?_; rintro e w' ⟨rfl, rfl⟩)
      | (go_at_call 13; refine (add_any _ _ _).mono ?_; rintro e w' ⟨rfl, rfl⟩)
      | (go_at_call 16; refine (many_any _ _ _).mono ?_; rintro e w' ⟨rfl, rfl⟩)
      | (go_at_call 17; refine (within_any _ _ _ _).mono ?_; rintro e w' ⟨rfl, rfl⟩))
    go_ret
    exact ⟨rfl, rfl⟩
  · have k4 : (cWithin n f t == cWithin n (cOf (t + 1)) (cOf (f + -1))) = false := by simpa using within_not n f t h
    have k5 : (cOf (t - f) + 1 == 281474976710656) = false := by rw [beq_eq_false_iff_ne]; omega
    have a3 : cOf (t - f) ≤ 281474976710654 := by omega
    clear h a2
    go_enter Try.func4, Try.ntmps4
    go_wp2_with (first
      | (go_at_call 11; refine (works02 _).mono ?_; rintro e w' ⟨rfl, rfl⟩)
      | (go_at_call 14; refine (of_any _ _).mono ?_; rintro e w' ⟨rfl, rfl⟩)
      | (go_at_call 13; refine (add_any _ _ _).mono ?_; rintro e w' ⟨rfl, rfl⟩)
      | (go_at_call 16; refine (many_any _ _ _).mono ?_; rintro e w' ⟨rfl, rfl⟩)
      | (go_at_call 17; refine (within_any _ _ _ _).mono ?_; rintro e w' ⟨rfl, rfl⟩))
    go_ret
    exact ⟨rfl, rfl⟩

theorem steps_any (a x y : Int) (h0 : 0 ≤ x) (h1 : 0 ≤ y) (h2 : x ≤ 4294967295) (h3 : y ≤ 4294967295) (w : World) : Calls Try.prog 5 #[.int .i64 a, .int .u32 x, .int .u32 y] w fun e w' => e = .returned (.bool true) ∧ w = w' := by
  have k1 := steps_one a x y
  have k2 := steps_two a x y
  have k3 := steps_back a x y
  have k4 := steps_far a x y h0 h1 (by omega)
  have k5 := steps_rev a x y h0 h1 (by omega)
  have k6 := steps_many a x y h0 h1 (by omega)
  have k7 := steps_within a x y h0 h1 (by omega)
  go_enter Try.func5, Try.ntmps5
  go_wp2_with (first
    | (go_at_call 11; refine (works02 _).mono ?_; rintro e w' ⟨rfl, rfl⟩)
    | (go_at_call 14; refine (of_any _ _).mono ?_; rintro e w' ⟨rfl, rfl⟩)
    | (go_at_call 13; refine (add_any _ _ _).mono ?_; rintro e w' ⟨rfl, rfl⟩)
    | (go_at_call 12; refine (far_any _ _ _).mono ?_; rintro e w' ⟨rfl, rfl⟩)
    | (go_at_call 16; refine (many_any _ _ _).mono ?_; rintro e w' ⟨rfl, rfl⟩)
    | (go_at_call 17; refine (within_any _ _ _ _).mono ?_; rintro e w' ⟨rfl, rfl⟩))
  go_ret
  exact ⟨rfl, rfl⟩

end Go.Proofs.Ytpnibmmpagecdaa
