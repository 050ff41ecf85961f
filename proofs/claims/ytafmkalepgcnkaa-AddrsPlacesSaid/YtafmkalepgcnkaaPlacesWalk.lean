/-
  The law AddrsPlaces, walked: it returns true and leaves all that was there as it was.
-/
import Derived.Test.YtafmkalepgcnkaaPlacesLaw
namespace Go.Proofs.Ytafmkalepgcnkaa
open Go.RowKit

theorem run_field40 (a b : Int) (w : World) : (Instr.field 40 (.agg #[.int .i64 a, .int .i64 b]) 0).run Try.prog w = .ok (.int .i64 a) w := by kernel_rfl

set_option maxRecDepth 100000 in
set_option maxHeartbeats 4000000 in
theorem placesLaw_any (g0 g1 : Option Addr) (c0 c1 : Nat) (os rs : List Int) (w : World) (h0 : RowIn w g0 os) (h1 : RowIn w g1 rs) (l0 : os.length ≤ 9223372036854775807) (l1 : rs.length ≤ 9223372036854775807) :
    Calls Try.prog 5 #[.slice g0 os.length c0, .slice g1 rs.length c1] w fun e w' => e = .returned (.bool true) ∧ Below w.heap.size w w' := by
  by_cases hb0 : 50 < os.length
  · have hb0' : (50 : Int) < (os.length : Int) := by omega
    clear h0 h1
    go_enter Try.func5, Try.ntmps5
    go_wp2_with (go_at_call 20; refine (works27 _).mono ?_; rintro e w1 ⟨rfl, hb⟩)
    go_ret
    exact ⟨rfl, hb⟩
  · by_cases hb1 : 50 < rs.length
    · have hb1' : (50 : Int) < (rs.length : Int) := by omega
      clear h0 h1
      go_enter Try.func5, Try.ntmps5
      go_wp2_with (go_at_call 20; refine (works27 _).mono ?_; rintro e w1 ⟨rfl, hb⟩)
      go_ret
      exact ⟨rfl, hb⟩
    · obtain ⟨o1, o2⟩ := sFold_ok os
      obtain ⟨r1, r2⟩ := sFold_ok rs
      have l0' : (os.length : Int) ≤ 50 := by omega
      have l1' : (rs.length : Int) ≤ 50 := by omega
      clear hb0 hb1
      go_enter Try.func5, Try.ntmps5
      go_wp2_with (first
        | (go_at_call 20; refine (works27 _).mono ?_; rintro e w1 ⟨rfl, hw1⟩)
        | (go_at_call 21; refine (new_any _ _ _ _ os rs _ (h0.later hw1) (h1.later hw1) l0 l1).mono ?_; rintro e w2 ⟨b, rfl, hbl, hT, hb2⟩)
        | fail)
      have hw2 := hw1.trans (hb2.mono hw1.size)
      clear h0 h1 hw1 hb2 hbl
      refine (alls_own _ _ _ _ hT).mono ?_
      rintro e w3 ⟨gA, capA, rfl, ownA, hb3⟩
      have rA := Row3.of ownA
      have hT3 := hT.below hb3
      have hw3 := hw2.trans (hb3.mono hw2.size)
      clear hT hw2 hb3 ownA
      go_wp2_with fail
      refine (alls_other _ _ _ _ hT3).mono ?_
      rintro e w4 ⟨gC, capC, rfl, ownC, hb4⟩
      have rC := Row3.of ownC
      have hT4 := hT3.below hb4
      have rA4 := rA.later hb4
      have hw4 := hw3.trans (hb4.mono hw3.size)
      clear hT3 hw3 hb4 ownC rA
      go_wp2_with fail
      refine (places_at (n := (rl (sFold os) 16).length * (rl (sFold rs) 16).length) _ hT4 rfl (by rw [rows_length, Nat.min_self])).mono ?_
      rintro e w5 ⟨gL, cap, rfl, ownL, hb5⟩
      generalize rl (sFold os) 16 = A at *
      generalize rl (sFold rs) 16 = C at *
      have hP : Pls w gA gC gL cap A C w5 := ⟨rA4.later hb5, rC.later hb5, by
        obtain ⟨q1, q2⟩ := ownL
        refine ⟨q1, ?_⟩
        rcases q2 with q2 | ⟨g, c, cur, q3, q4, q5⟩
        · exact .inl q2
        · exact .inr ⟨g, c, cur, q3, Nat.le_trans hw4.size q4, q5⟩, hw4.trans (hb5.mono hw4.size)⟩
      clear hT4 rA4 rC hw4 hb5 ownL o1 r1
      have hm : (A.length : Int) * (C.length : Int) ≤ 16 := by
        have := Nat.mul_le_mul o2 r2
        rw [← Int.natCast_mul]; omega
      have hm0 : 0 ≤ (A.length : Int) * (C.length : Int) := by rw [← Int.natCast_mul]; omega
      go_wp2_with fail
      go_loopw [9] (fun t wr => ∃ i : Nat, i ≤ A.length ∧ t = .int .i64 i ∧ Pls w gA gC gL cap A C wr) (fun t _ => A.length - (intOf t).toNat)
      case atStart => exact ⟨0, Nat.zero_le _, rfl, hP⟩
      case round =>
        clear hP
        obtain ⟨i, hi, rfl, hP⟩ := hrel
        obtain ⟨wo, rfl⟩ : ∃ wo : World, wo = wr := ⟨_, rfl⟩
        by_cases hilt : i < A.length
        · obtain ⟨bA, hgA, cA⟩ := hP.ra.get hilt
          have hilt' : (i : Int) < (A.length : Int) := by omega
          obtain ⟨x, hx⟩ : ∃ x, A[i]?.getD 0 = x := ⟨_, rfl⟩
          have HX := Lib.hid hx
          clear hx cA
          subst hgA
          go_wp2_with fail
          go_loopw [10] (fun t wr => ∃ k : Nat, k ≤ C.length ∧ t = .int .i64 k ∧ Pls w (some ⟨bA, 0, none⟩) gC gL cap A C wr) (fun t _ => C.length - (intOf t).toNat)
          case atStart => exact ⟨0, Nat.zero_le _, rfl, hP⟩
          case round =>
            clear hP
            obtain ⟨k, hk, rfl, hP⟩ := hrel
            by_cases hklt : k < C.length
            · obtain ⟨bC, hgC, cC⟩ := hP.rc.get hklt
              have hklt' : (k : Int) < (C.length : Int) := by omega
              have hqn : i * C.length + k < A.length * C.length := by
                have := Nat.mul_le_mul_right C.length (show i + 1 ≤ A.length from hilt)
                rw [Nat.succ_mul] at this; omega
              obtain ⟨bL, hgL, hbL⟩ := pair_block hP.own (by omega)
              obtain ⟨y, hy⟩ : ∃ y, C[k]?.getD 0 = y := ⟨_, rfl⟩
              have HY := Lib.hid hy
              obtain ⟨cx, cy⟩ := rows_get A C i k hilt hklt
              rw [HX.out] at cx
              rw [hy] at cy
              have hcx := pair_cells hP.own hgL cx
              have hcy := pair_cells hP.own hgL cy
              obtain ⟨q, hq⟩ : ∃ q, i * C.length + k = q := ⟨_, rfl⟩
              rw [hq] at hcx hcy hqn
              have hqi : (i : Int) * (C.length : Int) + (k : Int) = (q : Int) := by rw [← hq]; simp
              have hq1 : (q : Int) < (A.length : Int) * (C.length : Int) := by rw [← Int.natCast_mul]; omega
              have hmi0 : 0 ≤ (i : Int) * (C.length : Int) := by rw [← Int.natCast_mul]; omega
              have hmi1 : (i : Int) * (C.length : Int) ≤ 16 := by omega
              subst hgC hgL
              have hU := Pls1.fresh (x := x) (y := y) hP
              clear hy cC cx cy hq hbL hqn
              go_wp2_with fail
              clear hcx hcy hqi hq1 hmi0 hmi1
              have hfd := run_field40
              go_region_held3 (fun w' => w'.cell? ⟨wr.heap.size, 0, none⟩ = some (.int .i64 x) ∧ w'.cell? ⟨wr.heap.size, 1, none⟩ = some (.int .i64 y) ∧ w'.cell? ⟨bA, i, none⟩ = some (.int .i64 x) ∧ w'.cell? ⟨bC, k, none⟩ = some (.int .i64 y) ∧ Pls1 w (some ⟨bA, 0, none⟩) (some ⟨bC, 0, none⟩) (some ⟨bL, 0, none⟩) cap A C wr.heap.size x y w')
                (first | exact hU.drewn.held hilt hklt HX.out HY.out | exact Pls1.keep hilt hklt HX.out HY.out (by assumption) (by assumption) | go_keep)
                (first | (go_at_call 24; refine (back_any _ _ _).mono ?_; rintro e w9 ⟨rfl, hb⟩))
              obtain ⟨-, -, -, -, hU9⟩ := (show w9.cell? ⟨wr.heap.size, 0, none⟩ = some (.int .i64 x) ∧ w9.cell? ⟨wr.heap.size, 1, none⟩ = some (.int .i64 y) ∧ w9.cell? ⟨bA, i, none⟩ = some (.int .i64 x) ∧ w9.cell? ⟨bC, k, none⟩ = some (.int .i64 y) ∧ Pls1 w (some ⟨bA, 0, none⟩) (some ⟨bC, 0, none⟩) (some ⟨bL, 0, none⟩) cap A C wr.heap.size x y w9 from by assumption)
              go_wp2_with fail
              go_roundw
              case rel => exact ⟨k + 1, by omega, by go_num, hU9.pl⟩
              case measure => simp [intOf]; omega
            · obtain rfl : k = C.length := by omega
              go_wp2_with fail
              go_roundw
              case rel => exact ⟨i + 1, by omega, by go_num, hP⟩
              case measure => simp [intOf]; omega
        · obtain rfl : i = A.length := by omega
          go_wp2_with fail
          go_ret
          exact ⟨rfl, hP.below⟩

end Go.Proofs.Ytafmkalepgcnkaa
