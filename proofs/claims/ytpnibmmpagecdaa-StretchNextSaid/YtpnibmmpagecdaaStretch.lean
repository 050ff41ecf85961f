/-
  Walks over package stretch and its reference: each function once, by a contract.
-/
import Derived.Test.YtpnibmmpagecdaaCirc
import Derived.Test.YtpnibmmpagecdaaPlainB
import Derived.OwnWalk
import Derived.Laws.AppendOwn
namespace Go.Proofs.Ytpnibmmpagecdaa
open Go.RowKit

theorem short_any (n : Int) (w : World) : Calls Try.prog 29 #[.int .i64 n] w fun e w' => e = .returned (.int .i64 (sShort n)) ∧ w = w' := by
  go_enter Try.func29, Try.ntmps29
  go_wp2
  go_ret
  exact ⟨by rw [and_mask24]; rfl, rfl⟩

theorem rshort_any (n : Int) (w : World) : Calls Try.prog 31 #[.int .i64 n] w fun e w' => e = .returned (.int .i64 (sShort n)) ∧ w = w' := by
  have a1 := cOf_lo n
  have a2 := cOf_hi n
  have E := Lib.hid (sShort_cOf n)
  go_enter Try.func31, Try.ntmps31
  go_wp2_with (go_at_call 18; refine (rof_any _ _).mono ?_; rintro e w' ⟨rfl, rfl⟩)
  go_ret
  exact ⟨ret_int E.out, rfl⟩

theorem safe_any (near n : Int) (w : World) : Calls Try.prog 33 #[.int .i64 near, .int .i64 n] w fun e w' => e = .returned (.bool (sSafe near n)) ∧ w = w' := by
  by_cases h : -8388608 < cFar n near
  · have E : Hid (sSafe near n = decide (cFar n near ≤ 8388608)) := by unfold sSafe; exact Lib.hid (by simp [h])
    go_enter Try.func33, Try.ntmps33
    go_wp2_with (go_at_call 12; refine (far_any _ _ _).mono ?_; rintro e w' ⟨rfl, rfl⟩)
    go_ret
    exact ⟨ret_bool E.out.symm, rfl⟩
  · have E : Hid (sSafe near n = false) := by unfold sSafe; exact Lib.hid (by simp [h])
    go_enter Try.func33, Try.ntmps33
    go_wp2_with (go_at_call 12; refine (far_any _ _ _).mono ?_; rintro e w' ⟨rfl, rfl⟩)
    go_ret
    exact ⟨ret_bool E.out.symm, rfl⟩

theorem rsafe_any (near n : Int) (w : World) : Calls Try.prog 34 #[.int .i64 near, .int .i64 n] w fun e w' => e = .returned (.bool (sSafe near n)) ∧ w = w' := by
  by_cases h : -8388608 < cFar n near
  · have E : Hid (sSafe near n = decide (cFar n near ≤ 8388608)) := by unfold sSafe; exact Lib.hid (by simp [h])
    go_enter Try.func34, Try.ntmps34
    go_wp2_with (go_at_call 20; refine (rfar_any _ _ _).mono ?_; rintro e w' ⟨rfl, rfl⟩)
    go_ret
    exact ⟨ret_bool E.out.symm, rfl⟩
  · have E : Hid (sSafe near n = false) := by unfold sSafe; exact Lib.hid (by simp [h])
    go_enter Try.func34, Try.ntmps34
    go_wp2_with (go_at_call 20; refine (rfar_any _ _ _).mono ?_; rintro e w' ⟨rfl, rfl⟩)
    go_ret
    exact ⟨ret_bool E.out.symm, rfl⟩

theorem long_any (near short : Int) (w : World) : Calls Try.prog 30 #[.int .i64 near, .int .i64 short] w fun e w' => e = .returned (.int .i64 (sLong near short)) ∧ w = w' := by
  have a1 := sShort_lo near
  have a2 := sShort_hi near
  have b1 := sShort_lo short
  have b2 := sShort_hi short
  have c1 := sShort_lo (sShort short - sShort near)
  have c2 := sShort_hi (sShort short - sShort near)
  have E := Lib.hid (sShort_sub short near)
  by_cases h : 8388608 < sShort (sShort short - sShort near)
  · go_enter Try.func30, Try.ntmps30
    go_wp2_with (first | (go_at_call 29; refine (short_any _ _).mono ?_; rintro e w' ⟨rfl, rfl⟩) | (go_at_call 13; refine (add_any _ _ _).mono ?_; rintro e w' ⟨rfl, rfl⟩))
    go_ret
    exact ⟨ret_int (by unfold sLong sUp; rw [← E.out, if_pos h]), rfl⟩
  · go_enter Try.func30, Try.ntmps30
    go_wp2_with (first | (go_at_call 29; refine (short_any _ _).mono ?_; rintro e w' ⟨rfl, rfl⟩) | (go_at_call 13; refine (add_any _ _ _).mono ?_; rintro e w' ⟨rfl, rfl⟩))
    go_ret
    exact ⟨ret_int (by unfold sLong sUp; rw [← E.out, if_neg (by omega)]), rfl⟩

theorem rlong_any (near short : Int) (w : World) : Calls Try.prog 32 #[.int .i64 near, .int .i64 short] w fun e w' => e = .returned (.int .i64 (sLong near short)) ∧ w = w' := by
  have a1 := cOf_lo near
  have a2 := cOf_hi near
  have n1 := sShort_lo near
  have n2 := sShort_hi near
  have b1 := sShort_lo short
  have b2 := sShort_hi short
  have u1 := sUp_lo near short
  have u2 := sUp_hi near short
  obtain ⟨j, j1, j2, hj⟩ := sUp_form near short
  have J := Lib.hid hj
  clear hj
  go_enter Try.func32, Try.ntmps32
  go_wp2_with (first | (go_at_call 18; refine (rof_any _ _).mono ?_; rintro e w' ⟨rfl, rfl⟩))
  go_loop [6, 7, 8] (fun b f t => ∃ k : Int, t = .int .i64 k ∧ -1 ≤ k ∧ k ≤ 2 ∧
      ((b = .int .i64 0 ∧ f = .int .i64 16777216 ∧ k ≤ j) ∨ (b = .int .i64 (sLong near short) ∧ ∃ d : Int, f = .int .i64 d ∧ -8388608 < d ∧ d ≤ 8388608)))
    (fun _ _ t => (2 - intOf t).toNat)
  case atStart => exact ⟨-1, rfl, by omega, by omega, .inl ⟨rfl, rfl, by omega⟩⟩
  case round =>
    obtain ⟨k, rfl, h0, h2, hs⟩ := hrel
    by_cases hk : k ≤ 1
    · have E := long_hit near short k h0 hk
      rcases hs with ⟨rfl, rfl, hle⟩ | ⟨rfl, d, rfl, d1, d2⟩
      · by_cases hin : k = j
        · have V := Lib.hid (long_val near short k (by rw [hin]; exact J.out.symm))
          rw [show k * 16777216 + sShort short - sShort near = sUp near short from by rw [hin]; exact J.out.symm] at E
          clear hle hin
          go_wp2_with (first | (go_at_call 31; refine (rshort_any _ _).mono ?_; rintro e w' ⟨rfl, rfl⟩) | (go_at_call 20; refine (rfar_any _ _ _).mono ?_; rintro e w' ⟨rfl, rfl⟩) | (go_at_call 18; refine (rof_any _ _).mono ?_; rintro e w' ⟨rfl, rfl⟩))
          go_round
          case rel => exact ⟨k + 1, rfl, by omega, by omega, .inr ⟨by rw [V.out], _, rfl, u1, u2⟩⟩
          case measure => simp [intOf]; omega
        · have hlow : k * 16777216 + sShort short - sShort near ≤ -8388608 := by have := J.out; omega
          have hlt : k + 1 ≤ j := by omega
          clear hle hin
          go_wp2_with (first | (go_at_call 31; refine (rshort_any _ _).mono ?_; rintro e w' ⟨rfl, rfl⟩) | (go_at_call 20; refine (rfar_any _ _ _).mono ?_; rintro e w' ⟨rfl, rfl⟩) | (go_at_call 18; refine (rof_any _ _).mono ?_; rintro e w' ⟨rfl, rfl⟩))
          go_round
          case rel => exact ⟨k + 1, rfl, by omega, by omega, .inl ⟨rfl, rfl, hlt⟩⟩
          case measure => simp [intOf]; omega
      · have hd : (d == 16777216) = false := by rw [beq_eq_false_iff_ne]; omega
        go_wp2_with (first | (go_at_call 31; refine (rshort_any _ _).mono ?_; rintro e w' ⟨rfl, rfl⟩) | (go_at_call 20; refine (rfar_any _ _ _).mono ?_; rintro e w' ⟨rfl, rfl⟩) | (go_at_call 18; refine (rof_any _ _).mono ?_; rintro e w' ⟨rfl, rfl⟩))
        all_goals
          go_round
          case rel => exact ⟨k + 1, rfl, by omega, by omega, .inr ⟨rfl, _, rfl, d1, d2⟩⟩
          case measure => simp [intOf]; omega
    · rcases hs with ⟨rfl, rfl, hle⟩ | ⟨rfl, d, rfl, d1, d2⟩
      · exact absurd hle (by omega)
      · go_wp2
        go_ret
        exact ⟨rfl, rfl⟩

end Go.Proofs.Ytpnibmmpagecdaa
