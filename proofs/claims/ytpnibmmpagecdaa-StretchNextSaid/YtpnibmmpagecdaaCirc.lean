/-
  Walks over package circ and its reference: each function once, by a contract.
-/
import Derived.Test.YtpnibmmpagecdaaChecked
import Derived.Test.YtpnibmmpagecdaaPlain
import Derived.WalkKit
import Derived.WalkLawsBesides
import Derived.Outline
import Derived.Lib.Hide
namespace Go.Proofs.Ytpnibmmpagecdaa
open Go.RowKit

theorem ret_int {k : IntKind} {a b : Int} (h : a = b) : Ending.returned (.int k a) = .returned (.int k b) := by rw [h]
theorem ret_bool {a b : Bool} (h : a = b) : Ending.returned (.bool a) = .returned (.bool b) := by rw [h]

theorem of_any (n : Int) (w : World) : Calls Try.prog 14 #[.int .i64 n] w fun e w' => e = .returned (.int .i64 (cOf n)) ∧ w = w' := by
  go_enter Try.func14, Try.ntmps14
  go_wp2
  go_ret
  exact ⟨by rw [and_mask48]; rfl, rfl⟩

theorem add_any (a n : Int) (w : World) : Calls Try.prog 13 #[.int .i64 a, .int .i64 n] w fun e w' => e = .returned (.int .i64 (cOf (a + n))) ∧ w = w' := by
  have a1 := cOf_lo a
  have a2 := cOf_hi a
  have b1 := cOf_lo n
  have b2 := cOf_hi n
  go_enter Try.func13, Try.ntmps13
  go_wp2_with (go_at_call 14; refine (of_any _ _).mono ?_; rintro e w' ⟨rfl, rfl⟩)
  go_ret
  exact ⟨ret_int (by rw [and_mask48, cOf_add]), rfl⟩

theorem up_any (f t : Int) (w : World) : Calls Try.prog 35 #[.int .i64 f, .int .i64 t] w fun e w' => e = .returned (.int .i64 (cOf (t - f))) ∧ w = w' := by
  have a1 := cOf_lo f
  have a2 := cOf_hi f
  have b1 := cOf_lo t
  have b2 := cOf_hi t
  go_enter Try.func35, Try.ntmps35
  go_wp2_with (go_at_call 14; refine (of_any _ _).mono ?_; rintro e w' ⟨rfl, rfl⟩)
  go_ret
  exact ⟨ret_int (by rw [and_mask48, cOf_sub]), rfl⟩

theorem far_any (a b : Int) (w : World) : Calls Try.prog 12 #[.int .i64 a, .int .i64 b] w fun e w' => e = .returned (.int .i64 (cFar a b)) ∧ w = w' := by
  have a1 := cOf_lo (a - b)
  have a2 := cOf_hi (a - b)
  by_cases h : 140737488355328 < cOf (a - b)
  · go_enter Try.func12, Try.ntmps12
    go_wp2_with (go_at_call 35; refine (up_any _ _ _).mono ?_; rintro e w' ⟨rfl, rfl⟩)
    go_ret
    exact ⟨ret_int (by unfold cFar; rw [if_pos h]), rfl⟩
  · go_enter Try.func12, Try.ntmps12
    go_wp2_with (go_at_call 35; refine (up_any _ _ _).mono ?_; rintro e w' ⟨rfl, rfl⟩)
    go_ret
    exact ⟨ret_int (by unfold cFar; rw [if_neg (by omega)]), rfl⟩

theorem less_any (a b : Int) (w : World) : Calls Try.prog 15 #[.int .i64 a, .int .i64 b] w fun e w' => e = .returned (.bool (cLess a b)) ∧ w = w' := by
  go_enter Try.func15, Try.ntmps15
  go_wp2_with (go_at_call 12; refine (far_any _ _ _).mono ?_; rintro e w' ⟨rfl, rfl⟩)
  go_ret
  exact ⟨rfl, rfl⟩

theorem later_any (a b : Int) (w : World) : Calls Try.prog 22 #[.int .i64 a, .int .i64 b] w fun e w' => e = .returned (.int .i64 (if cLess a b then cOf b else cOf a)) ∧ w = w' := by
  cases h : cLess a b
  all_goals
    go_enter Try.func22, Try.ntmps22
    go_wp2_with (first | (go_at_call 15; refine (less_any _ _ _).mono ?_; rintro e w' ⟨rfl, rfl⟩) | (go_at_call 14; refine (of_any _ _).mono ?_; rintro e w' ⟨rfl, rfl⟩))
    go_ret
    exact ⟨rfl, rfl⟩

theorem many_any (f t : Int) (w : World) : Calls Try.prog 16 #[.int .i64 f, .int .i64 t] w fun e w' => e = .returned (.int .i64 (cOf (t - f) + 1)) ∧ w = w' := by
  have a1 := cOf_lo (t - f)
  have a2 := cOf_hi (t - f)
  go_enter Try.func16, Try.ntmps16
  go_wp2_with (go_at_call 35; refine (up_any _ _ _).mono ?_; rintro e w' ⟨rfl, rfl⟩)
  go_ret
  exact ⟨rfl, rfl⟩

theorem within_any (n f t : Int) (w : World) : Calls Try.prog 17 #[.int .i64 n, .int .i64 f, .int .i64 t] w fun e w' => e = .returned (.bool (cWithin n f t)) ∧ w = w' := by
  go_enter Try.func17, Try.ntmps17
  go_wp2_with (go_at_call 35; refine (up_any _ _ _).mono ?_; rintro e w' ⟨rfl, rfl⟩)
  go_ret
  exact ⟨rfl, rfl⟩

/-! ### the reference -/
theorem rof_any (n : Int) (w : World) : Calls Try.prog 18 #[.int .i64 n] w fun e w' => e = .returned (.int .i64 (cOf n)) ∧ w = w' := by
  have hb := tmod48_bd n
  by_cases h : n.tmod 281474976710656 < 0
  · have e := cOf_tmod_neg n h
    have E := Lib.hid e
    clear e
    go_enter Try.func18, Try.ntmps18
    go_wp2
    go_ret
    exact ⟨ret_int E.out, rfl⟩
  · have e := cOf_tmod_nn n (by omega)
    have E := Lib.hid e
    clear e
    go_enter Try.func18, Try.ntmps18
    go_wp2
    go_ret
    exact ⟨ret_int E.out, rfl⟩

theorem radd_any (a n : Int) (w : World) : Calls Try.prog 19 #[.int .i64 a, .int .i64 n] w fun e w' => e = .returned (.int .i64 (cOf (a + n))) ∧ w = w' := by
  have a1 := cOf_lo a
  have a2 := cOf_hi a
  have b1 := cOf_lo n
  have b2 := cOf_hi n
  go_enter Try.func19, Try.ntmps19
  go_wp2_with (go_at_call 18; refine (rof_any _ _).mono ?_; rintro e w' ⟨rfl, rfl⟩)
  go_ret
  exact ⟨ret_int (cOf_ofa a n), rfl⟩

theorem rfar_any (a b : Int) (w : World) : Calls Try.prog 20 #[.int .i64 a, .int .i64 b] w fun e w' => e = .returned (.int .i64 (cFar a b)) ∧ w = w' := by
  have a1 := cOf_lo a
  have a2 := cOf_hi a
  have b1 := cOf_lo b
  have b2 := cOf_hi b
  go_enter Try.func20, Try.ntmps20
  go_wp2_with (go_at_call 18; refine (rof_any _ _).mono ?_; rintro e w' ⟨rfl, rfl⟩)
  go_loop [5] (fun t => ∃ x : Int, t = .int .i64 x ∧ Hid (cOf x = cOf (a - b)) ∧ -281474976710656 < x ∧ x < 281474976710656) (fun t => (intOf t + 281474976710656).toNat)
  case atStart => exact ⟨_, rfl, Lib.hid (cOf_ofs a b), by omega, by omega⟩
  case round =>
    obtain ⟨x, rfl, hx, h1, h2⟩ := hrel
    by_cases hx2 : 140737488355328 < x
    · go_wp2
      go_round
      case rel => exact ⟨x - 281474976710656, rfl, Lib.hid (by rw [cOf_less]; exact hx.out), by omega, by omega⟩
      case measure => simp [intOf]; omega
    · go_wp2
      go_loop [5] (fun t => ∃ x : Int, t = .int .i64 x ∧ Hid (cOf x = cOf (a - b)) ∧ -281474976710656 < x ∧ x ≤ 140737488355328) (fun t => (281474976710656 - intOf t).toNat)
      case atStart => exact ⟨x, rfl, hx, by omega, by omega⟩
      case round =>
        obtain ⟨y, rfl, hy, h3, h4⟩ := hrel
        by_cases hy2 : y ≤ -140737488355328
        · go_wp2
          go_round
          case rel => exact ⟨y + 281474976710656, rfl, Lib.hid (by rw [cOf_more]; exact hy.out), by omega, by omega⟩
          case measure => simp [intOf]; omega
        · go_wp2
          go_ret
          exact ⟨ret_int (cFar_of a b y hy.out (by omega) h4), rfl⟩

theorem rless_any (a b : Int) (w : World) : Calls Try.prog 21 #[.int .i64 a, .int .i64 b] w fun e w' => e = .returned (.bool (cLess a b)) ∧ w = w' := by
  go_enter Try.func21, Try.ntmps21
  go_wp2_with (go_at_call 20; refine (rfar_any _ _ _).mono ?_; rintro e w' ⟨rfl, rfl⟩)
  go_ret
  exact ⟨rfl, rfl⟩

theorem rlater_any (a b : Int) (w : World) : Calls Try.prog 23 #[.int .i64 a, .int .i64 b] w fun e w' => e = .returned (.int .i64 (if cLess a b then cOf b else cOf a)) ∧ w = w' := by
  cases h : cLess a b
  all_goals
    go_enter Try.func23, Try.ntmps23
    go_wp2_with (first | (go_at_call 21; refine (rless_any _ _ _).mono ?_; rintro e w' ⟨rfl, rfl⟩) | (go_at_call 18; refine (rof_any _ _).mono ?_; rintro e w' ⟨rfl, rfl⟩))
    go_ret
    exact ⟨rfl, rfl⟩

theorem rmany_any (f t : Int) (w : World) : Calls Try.prog 24 #[.int .i64 f, .int .i64 t] w fun e w' => e = .returned (.int .i64 (cOf (t - f) + 1)) ∧ w = w' := by
  have a1 := cOf_lo f
  have a2 := cOf_hi f
  have b1 := cOf_lo t
  have b2 := cOf_hi t
  by_cases h : cOf t < cOf f
  · go_enter Try.func24, Try.ntmps24
    go_wp2_with (go_at_call 18; refine (rof_any _ _).mono ?_; rintro e w' ⟨rfl, rfl⟩)
    go_ret
    exact ⟨ret_int (many_lt f t h), rfl⟩
  · go_enter Try.func24, Try.ntmps24
    go_wp2_with (go_at_call 18; refine (rof_any _ _).mono ?_; rintro e w' ⟨rfl, rfl⟩)
    go_ret
    exact ⟨ret_int (many_ge f t (by omega)), rfl⟩

theorem rwithin_any (n f t : Int) (w : World) : Calls Try.prog 25 #[.int .i64 n, .int .i64 f, .int .i64 t] w fun e w' => e = .returned (.bool (cWithin n f t)) ∧ w = w' := by
  have a1 := cOf_lo (n - f)
  have a2 := cOf_hi (n - f)
  have b1 := cOf_lo (t - f)
  have b2 := cOf_hi (t - f)
  go_enter Try.func25, Try.ntmps25
  go_wp2_with (go_at_call 24; refine (rmany_any _ _ _).mono ?_; rintro e w' ⟨rfl, rfl⟩)
  go_ret
  exact ⟨rfl, rfl⟩

end Go.Proofs.Ytpnibmmpagecdaa
