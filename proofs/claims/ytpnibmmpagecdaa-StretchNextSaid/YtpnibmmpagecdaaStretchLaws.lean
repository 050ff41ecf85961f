/-
  Three laws of layer 3, walked: each returns true and leaves all that was there as it was. The callees by their contracts.
-/
import Derived.Test.YtpnibmmpagecdaaNext
namespace Go.Proofs.Ytpnibmmpagecdaa
open Go.RowKit

theorem works03 (w : World) : Calls Try.prog 26 #[] w fun e w' => e = .returned (.bool true) ∧ Below w.heap.size w w' := by
  have h1 : sLong 16777221 16777215 = 16777215 := by decide
  have h2 : sShort 16777223 = 7 := by decide
  have h3 : sCount 2 = 2 := by decide
  go_enter Try.func26, Try.ntmps26
  go_wp2_with (first
    | (go_at_call 30; refine (long_any _ _ _).mono ?_; rintro e w' ⟨rfl, rfl⟩)
    | (go_at_call 29; refine (short_any _ _).mono ?_; rintro e w' ⟨rfl, rfl⟩)
    | (go_at_call 27; refine (next_any _ _ _ _).mono ?_; rintro e w' ⟨g, cap, rfl, hown, hb⟩))
  go_ret
  exact ⟨rfl, hb⟩

theorem stells_any (near short n : Int) (w : World) : Calls Try.prog 8 #[.int .i64 near, .int .i64 short, .int .i64 n] w fun e w' => e = .returned (.bool true) ∧ Below w.heap.size w w' := by
  go_enter Try.func8, Try.ntmps8
  go_wp2_with (first
    | (go_at_call 26; refine (works03 _).mono ?_; rintro e w' ⟨rfl, hb⟩)
    | (go_at_call 29; refine (short_any _ _).mono ?_; rintro e w' ⟨rfl, rfl⟩)
    | (go_at_call 31; refine (rshort_any _ _).mono ?_; rintro e w' ⟨rfl, rfl⟩)
    | (go_at_call 30; refine (long_any _ _ _).mono ?_; rintro e w' ⟨rfl, rfl⟩)
    | (go_at_call 32; refine (rlong_any _ _ _).mono ?_; rintro e w' ⟨rfl, rfl⟩)
    | (go_at_call 33; refine (safe_any _ _ _).mono ?_; rintro e w' ⟨rfl, rfl⟩)
    | (go_at_call 34; refine (rsafe_any _ _ _).mono ?_; rintro e w' ⟨rfl, rfl⟩))
  go_ret
  exact ⟨rfl, hb⟩

theorem sback_any (near n : Int) (w : World) : Calls Try.prog 9 #[.int .i64 near, .int .i64 n] w fun e w' => e = .returned (.bool true) ∧ Below w.heap.size w w' := by
  have k1 := back_long near n
  have k2 := back_safe near n
  have k3 := back_short near n
  have k4 := back_near near n
  go_enter Try.func9, Try.ntmps9
  go_wp2_with (first
    | (go_at_call 26; refine (works03 _).mono ?_; rintro e w' ⟨rfl, hb⟩)
    | (go_at_call 29; refine (short_any _ _).mono ?_; rintro e w' ⟨rfl, rfl⟩)
    | (go_at_call 30; refine (long_any _ _ _).mono ?_; rintro e w' ⟨rfl, rfl⟩)
    | (go_at_call 33; refine (safe_any _ _ _).mono ?_; rintro e w' ⟨rfl, rfl⟩)
    | (go_at_call 18; refine (rof_any _ _).mono ?_; rintro e w' ⟨rfl, rfl⟩))
  go_ret
  exact ⟨rfl, hb⟩

set_option maxHeartbeats 1600000 in
theorem sstays_any (near short x : Int) (x0 : 0 ≤ x) (x1 : x ≤ 4294967295) (w : World) : Calls Try.prog 10 #[.int .i64 near, .int .i64 short, .int .u32 x] w fun e w' => e = .returned (.bool true) ∧ Below w.heap.size w w' := by
  have k2 := back_short near short
  have k3 := stays_self near short
  have k4 := back_near near short
  have kb := fun st h => Lib.hid (stays_between near short st h)
  have u1 := sUp_lo near short
  have u2 := sUp_hi near short
  have a1 := cOf_lo near
  have a2 := cOf_hi near
  have v1 : 0 ≤ sLong near short := cOf_lo _
  have v2 : sLong near short ≤ 281474976710655 := cOf_hi _
  have hw : (sLong near short ≤ cOf near + sUp near short ∧ cOf near + sUp near short ≤ sLong near short) ∨ (sLong near short ≤ cOf near + sUp near short + 281474976710656 ∧ cOf near + sUp near short + 281474976710656 ≤ sLong near short)
      ∨ (sLong near short ≤ cOf near + sUp near short - 281474976710656 ∧ cOf near + sUp near short - 281474976710656 ≤ sLong near short) := by
    unfold sLong; unfold cOf at *; omega
  have tn := cOf_tmod_neg near
  have tp := cOf_tmod_nn near
  have tb := tmod48_bd near
  obtain ⟨s, hs⟩ : ∃ s, x % 8388608 = s := ⟨_, rfl⟩
  have s0 : 0 ≤ s := by omega
  have s1 : s ≤ 8388607 := by omega
  obtain ⟨v, hv⟩ : ∃ v, sLong near short = v := ⟨_, rfl⟩
  obtain ⟨u, hu⟩ : ∃ u, sUp near short = u := ⟨_, rfl⟩
  obtain ⟨A, hA⟩ : ∃ A, cOf near = A := ⟨_, rfl⟩
  rw [hv] at k2 k3 k4 v1 v2 hw
  rw [hu] at u1 u2 hw
  rw [hA] at a1 a2 hw tn tp
  simp only [hA, hu, hv] at kb
  clear hu hA
  by_cases ht : near.tmod 281474976710656 < 0
  all_goals
    first
      | (have T := tn ht; clear tn tp)
      | (have T := tp (by omega); clear tn tp tb ht)
    by_cases hu0 : u < 0
    · by_cases hst : -s < u
      · clear kb
        rcases hw with ⟨w1, w2⟩ | ⟨w1, w2⟩ | ⟨w1, w2⟩
        all_goals first | (exfalso; omega) | skip
        all_goals
          go_enter Try.func10, Try.ntmps10
          go_wp2_with (first
            | (go_at_call 26; refine (works03 _).mono ?_; rintro e w' ⟨rfl, hb⟩)
            | (go_at_call 29; refine (short_any _ _).mono ?_; rintro e w' ⟨rfl, rfl⟩)
            | (go_at_call 30; refine (long_any _ _ _).mono ?_; rintro e w' ⟨rfl, rfl⟩)
            | (go_at_call 33; refine (safe_any _ _ _).mono ?_; rintro e w' ⟨rfl, rfl⟩))
          go_ret
          exact ⟨rfl, hb⟩
      · have K := (kb (-s) (.inr ⟨by omega, by omega⟩)).out
        clear kb
        rcases hw with ⟨w1, w2⟩ | ⟨w1, w2⟩ | ⟨w1, w2⟩
        all_goals first | (exfalso; omega) | skip
        all_goals
          go_enter Try.func10, Try.ntmps10
          go_wp2_with (first
            | (go_at_call 26; refine (works03 _).mono ?_; rintro e w' ⟨rfl, hb⟩)
            | (go_at_call 29; refine (short_any _ _).mono ?_; rintro e w' ⟨rfl, rfl⟩)
            | (go_at_call 30; refine (long_any _ _ _).mono ?_; rintro e w' ⟨rfl, rfl⟩)
            | (go_at_call 33; refine (safe_any _ _ _).mono ?_; rintro e w' ⟨rfl, rfl⟩))
          go_ret
          exact ⟨rfl, hb⟩
    · by_cases hst : u < s
      · clear kb
        rcases hw with ⟨w1, w2⟩ | ⟨w1, w2⟩ | ⟨w1, w2⟩
        all_goals first | (exfalso; omega) | skip
        all_goals
          go_enter Try.func10, Try.ntmps10
          go_wp2_with (first
            | (go_at_call 26; refine (works03 _).mono ?_; rintro e w' ⟨rfl, hb⟩)
            | (go_at_call 29; refine (short_any _ _).mono ?_; rintro e w' ⟨rfl, rfl⟩)
            | (go_at_call 30; refine (long_any _ _ _).mono ?_; rintro e w' ⟨rfl, rfl⟩)
            | (go_at_call 33; refine (safe_any _ _ _).mono ?_; rintro e w' ⟨rfl, rfl⟩))
          go_ret
          exact ⟨rfl, hb⟩
      · have K := (kb s (.inl ⟨by omega, by omega⟩)).out
        clear kb
        rcases hw with ⟨w1, w2⟩ | ⟨w1, w2⟩ | ⟨w1, w2⟩
        all_goals first | (exfalso; omega) | skip
        all_goals
          go_enter Try.func10, Try.ntmps10
          go_wp2_with (first
            | (go_at_call 26; refine (works03 _).mono ?_; rintro e w' ⟨rfl, hb⟩)
            | (go_at_call 29; refine (short_any _ _).mono ?_; rintro e w' ⟨rfl, rfl⟩)
            | (go_at_call 30; refine (long_any _ _ _).mono ?_; rintro e w' ⟨rfl, rfl⟩)
            | (go_at_call 33; refine (safe_any _ _ _).mono ?_; rintro e w' ⟨rfl, rfl⟩))
          go_ret
          exact ⟨rfl, hb⟩

end Go.Proofs.Ytpnibmmpagecdaa
