/-
  Walks over the two functions that make a list: stretch.Next and its reference.
-/
import Derived.Test.YtpnibmmpagecdaaStretch
namespace Go.Proofs.Ytpnibmmpagecdaa
open Go.RowKit

theorem Try.info3 : (Try.prog.info? 3).map (fun i => (i.zero, i.size, i.bytes)) = some (some (.int .i64 0), 1, 8) := by kernel_rfl

/-- One more round: what the append leaves, in the relation's own words. -/
theorem nx_rel {B k : Nat} {a : Int} {w wr w1 : World} {v v' : Value} {o : Obj} (hB : B ≤ wr.heap.size)
    (hown : wr.ownsRow B 3 1 v k ((sNx a k).map (Value.int .i64))) (hnx : Below B w wr)
    (hown' : w1.ownsRow B 3 1 v' (k + 1) ((sNx a k).map (Value.int .i64) ++ [.int .i64 (cOf (a + (k : Int) * 16777216))])) (hgrow : (wr.alloc o).grownBy w1 v.ownBlock) :
    w1.ownsRow B 3 1 v' (k + 1) ((sNx a (k + 1)).map (Value.int .i64)) ∧ Below B w w1 := by
  refine ⟨by rw [sNx_succ, List.map_append]; exact hown', (hnx.alloc hB o).grown hgrow (by simp; omega) (fun j hj => (hown.lt j hj).1)⟩

def NextPost (B : Nat) (a : Int) (n : Nat) (w : World) (e : Ending) (w' : World) : Prop :=
  ∃ (g : Option Addr) (cap : Nat), e = .returned (.slice g n cap) ∧ w'.ownsRow B 3 1 (.slice g n cap) n ((sNx a n).map (Value.int .i64)) ∧ Below B w w'

theorem next_post {B n : Nat} {a : Int} {w w' : World} {v : Value} (hown : w'.ownsRow B 3 1 v n ((sNx a n).map (Value.int .i64))) (hnx : Below B w w') :
    NextPost B a n w (.returned v) w' := by
  rcases hown.2 with ⟨rfl, rfl⟩ | ⟨g, cap, cur, rfl, h⟩
  · exact ⟨none, 0, rfl, hown, hnx⟩
  · exact ⟨_, cap, rfl, hown, hnx⟩

theorem first_eq (start short : Int) : start + sShort (sShort short - sShort start) = sFirst start short := by rw [sShort_sub]; rfl

set_option maxHeartbeats 800000 in
theorem next_any (start short many : Int) (w : World) : Calls Try.prog 27 #[.int .i64 start, .int .i64 short, .int .i64 many] w (NextPost w.heap.size (sFirst start short) (sCount many) w) := by
  obtain ⟨i0, hi, hz0, hz1, hz2⟩ := info_parts Try.info3
  have b1 := sShort_lo short
  have b2 := sShort_hi short
  have c1 := sShort_lo start
  have c2 := sShort_hi start
  have hF := first_eq start short
  have HF := Lib.hid hF
  clear hF
  have hc : (many < 0 ∧ sCount many = 0) ∨ (0 ≤ many ∧ many ≤ 100 ∧ (sCount many : Int) ≤ many ∧ many ≤ (sCount many : Int)) ∨ (100 < many ∧ sCount many = 100) := by unfold sCount; omega
  have hN : sCount many ≤ 100 := by unfold sCount; omega
  generalize sCount many = N at *
  generalize sFirst start short = a at *
  rcases hc with ⟨h1, rfl⟩ | ⟨h1, h2, h3, h4⟩ | ⟨h1, rfl⟩
  all_goals
    go_enter Try.func27, Try.ntmps27
    go_wp2_with (first | (go_at_call 29; refine (short_any _ _).mono ?_; rintro e w' ⟨rfl, rfl⟩) | (go_at_call 13; refine (add_any _ _ _).mono ?_; rintro e w' ⟨rfl, rfl⟩))
    rw [HF.out]
    clear b1 b2 c1 c2
  · go_loopw [7, 8, 20] (fun v t i wr => ∃ k : Nat, k ≤ 0 ∧ i = .int .i64 k ∧ t = .int .i64 (cOf (a + (k : Int) * 16777216)) ∧ wr.ownsRow w.heap.size 3 1 v k ((sNx a k).map (Value.int .i64)) ∧ Below w.heap.size w wr)
      (fun _ _ i _ => 0 - (intOf i).toNat)
    case atStart => exact ⟨0, Nat.zero_le _, rfl, by simp, World.ownsRow_nil _ _ _ _, Below.refl _ _⟩
    case round =>
      obtain ⟨k, hk, rfl, rfl, hown, hnx⟩ := hrel
      have hsz := hnx.size
      by_cases hlt : k < 0
      · exact absurd hlt (by omega)
      · obtain rfl : k = 0 := by omega
        go_wp2
        go_ret
        exact next_post hown hnx
  · go_loopw [7, 8, 20] (fun v t i wr => ∃ k : Nat, k ≤ N ∧ i = .int .i64 k ∧ t = .int .i64 (cOf (a + (k : Int) * 16777216)) ∧ wr.ownsRow w.heap.size 3 1 v k ((sNx a k).map (Value.int .i64)) ∧ Below w.heap.size w wr)
      (fun _ _ i _ => N - (intOf i).toNat)
    case atStart => exact ⟨0, Nat.zero_le _, rfl, by simp, World.ownsRow_nil _ _ _ _, Below.refl _ _⟩
    case round =>
      obtain ⟨k, hk, rfl, rfl, hown, hnx⟩ := hrel
      have hsz := hnx.size
      by_cases hlt : k < N
      · have hlt' : (k : Int) < (N : Int) := by omega
        go_wp2_with (first
          | (at_builtin; refine wpList_append_own _ rfl _ _ 29 rfl w.heap.size 3 i0 (.int .i64 0) 1 8 Try.underlying29 hi hz0 hz1 hz2 rfl (by decide) _ _ _ rfl (hown.alloc _) ⟨wr.heap.size, 0, none⟩ 1 1 [.int .i64 (cOf (a + (k : Int) * 16777216))] rfl rfl ?c1 ?c2 ?c3 ?c4 ?c5 ?_)
          | (go_at_call 13; refine (add_any _ _ _).mono ?_; rintro e w' ⟨rfl, rfl⟩))
        case c1 =>
          intro j u hj
          match j, hj with
          | 0, hj => simp at hj; subst hj; simp [Addr.add]
        case c2 => intro u hu; simp at hu; subst hu; rfl
        case c3 => unfold maxLen; omega
        case c4 => omega
        case c5 => simp; omega
        intro v' w1 hown' hgrow _
        have R := nx_rel hsz hown hnx hown' hgrow
        clear hown' hgrow hown hnx
        go_wp2_with (first | (go_at_call 13; refine (add_any _ _ _).mono ?_; rintro e w' ⟨rfl, rfl⟩))
        go_roundw
        case rel => exact ⟨k + 1, by omega, by go_num, by rw [sNx_step], R.1, R.2⟩
        case measure => simp [intOf]; omega
      · obtain rfl : k = N := by omega
        go_wp2
        go_ret
        exact next_post hown hnx
  · go_loopw [7, 8, 20] (fun v t i wr => ∃ k : Nat, k ≤ 100 ∧ i = .int .i64 k ∧ t = .int .i64 (cOf (a + (k : Int) * 16777216)) ∧ wr.ownsRow w.heap.size 3 1 v k ((sNx a k).map (Value.int .i64)) ∧ Below w.heap.size w wr)
      (fun _ _ i _ => 100 - (intOf i).toNat)
    case atStart => exact ⟨0, Nat.zero_le _, rfl, by simp, World.ownsRow_nil _ _ _ _, Below.refl _ _⟩
    case round =>
      obtain ⟨k, hk, rfl, rfl, hown, hnx⟩ := hrel
      have hsz := hnx.size
      by_cases hlt : k < 100
      · have hlt' : (k : Int) < (100 : Int) := by omega
        go_wp2_with (first
          | (at_builtin; refine wpList_append_own _ rfl _ _ 29 rfl w.heap.size 3 i0 (.int .i64 0) 1 8 Try.underlying29 hi hz0 hz1 hz2 rfl (by decide) _ _ _ rfl (hown.alloc _) ⟨wr.heap.size, 0, none⟩ 1 1 [.int .i64 (cOf (a + (k : Int) * 16777216))] rfl rfl ?c1 ?c2 ?c3 ?c4 ?c5 ?_)
          | (go_at_call 13; refine (add_any _ _ _).mono ?_; rintro e w' ⟨rfl, rfl⟩))
        case c1 =>
          intro j u hj
          match j, hj with
          | 0, hj => simp at hj; subst hj; simp [Addr.add]
        case c2 => intro u hu; simp at hu; subst hu; rfl
        case c3 => unfold maxLen; omega
        case c4 => omega
        case c5 => simp; omega
        intro v' w1 hown' hgrow _
        have R := nx_rel hsz hown hnx hown' hgrow
        clear hown' hgrow hown hnx
        go_wp2_with (first | (go_at_call 13; refine (add_any _ _ _).mono ?_; rintro e w' ⟨rfl, rfl⟩))
        go_roundw
        case rel => exact ⟨k + 1, by omega, by go_num, by rw [sNx_step], R.1, R.2⟩
        case measure => simp [intOf]; omega
      · obtain rfl : k = 100 := by omega
        go_wp2
        go_ret
        exact next_post hown hnx

theorem rfirst_bd (start short : Int) : 0 ≤ cOf start / 16777216 * 16777216 + sShort short ∧ cOf start / 16777216 * 16777216 + sShort short ≤ 281474976710655 := by
  unfold cOf sShort; omega
theorem rfirst_lt (start short : Int) (h : cOf start / 16777216 * 16777216 + sShort short < cOf start) : cOf (cOf start / 16777216 * 16777216 + sShort short + 16777216) = cOf (sFirst start short) := by
  unfold sFirst; unfold cOf sShort at *; omega
theorem rfirst_ge (start short : Int) (h : cOf start ≤ cOf start / 16777216 * 16777216 + sShort short) : cOf (cOf start / 16777216 * 16777216 + sShort short) = cOf (sFirst start short) := by
  unfold sFirst; unfold cOf sShort at *; omega

set_option maxHeartbeats 1600000 in
theorem rnext_any (start short many : Int) (w : World) : Calls Try.prog 28 #[.int .i64 start, .int .i64 short, .int .i64 many] w (NextPost w.heap.size (sFirst start short) (sCount many) w) := by
  obtain ⟨i0, hi, hz0, hz1, hz2⟩ := info_parts Try.info3
  have b1 := sShort_lo short
  have b2 := sShort_hi short
  have c1 := cOf_lo start
  have c2 := cOf_hi start
  obtain ⟨f1, f2⟩ := rfirst_bd start short
  have hc : (many < 0 ∧ sCount many = 0) ∨ (0 ≤ many ∧ many ≤ 100 ∧ (sCount many : Int) ≤ many ∧ many ≤ (sCount many : Int)) ∨ (100 < many ∧ (100 : Int) ≤ sCount many) := by unfold sCount; omega
  have hN : sCount many ≤ 100 := by unfold sCount; omega
  generalize sCount many = N at *
  by_cases hl : cOf start / 16777216 * 16777216 + sShort short < cOf start
  · have HF := Lib.hid (rfirst_lt start short hl)
    generalize sFirst start short = a at *
    go_enter Try.func28, Try.ntmps28
    go_wp2_with (first | (go_at_call 31; refine (rshort_any _ _).mono ?_; rintro e w' ⟨rfl, rfl⟩) | (go_at_call 18; refine (rof_any _ _).mono ?_; rintro e w' ⟨rfl, rfl⟩))
    generalize hg : cOf start / 16777216 * 16777216 + sShort short + 16777216 = F at *
    have f3 : F ≤ 562949953421312 := by omega
    have f4 : 0 ≤ F := by omega
    clear b1 b2 c1 c2 f1 f2 hl hg
    go_loopw [7, 10] (fun v i wr => ∃ k : Nat, k ≤ N ∧ i = .int .i64 k ∧ wr.ownsRow w.heap.size 3 1 v k ((sNx F k).map (Value.int .i64)) ∧ Below w.heap.size w wr)
      (fun _ i _ => N - (intOf i).toNat)
    case atStart => exact ⟨0, Nat.zero_le _, rfl, World.ownsRow_nil _ _ _ _, Below.refl _ _⟩
    case round =>
      obtain ⟨k, hk, rfl, hown, hnx⟩ := hrel
      have hsz := hnx.size
      by_cases hlt : k < N
      · have hlt' : (k : Int) < many := by omega
        have hk' : (k : Int) < 100 := by omega
        go_wp2_with (first
          | (at_builtin; refine wpList_append_own _ rfl _ _ 29 rfl w.heap.size 3 i0 (.int .i64 0) 1 8 Try.underlying29 hi hz0 hz1 hz2 rfl (by decide) _ _ _ rfl (hown.alloc _) ⟨wr.heap.size, 0, none⟩ 1 1 [.int .i64 (cOf (F + (k : Int) * 16777216))] rfl rfl ?c1 ?c2 ?c3 ?c4 ?c5 ?_)
          | (go_at_call 18; refine (rof_any _ _).mono ?_; rintro e w' ⟨rfl, rfl⟩))
        case c1 =>
          intro j u hj
          match j, hj with
          | 0, hj => simp at hj; subst hj; simp [Addr.add]
        case c2 => intro u hu; simp at hu; subst hu; rfl
        case c3 => unfold maxLen; omega
        case c4 => omega
        case c5 => simp; omega
        intro v' w1 hown' hgrow _
        have R := nx_rel hsz hown hnx hown' hgrow
        clear hown' hgrow hown hnx
        go_wp2
        go_roundw
        case rel => exact ⟨k + 1, by omega, by go_num, R.1, R.2⟩
        case measure => simp [intOf]; omega
      · obtain rfl : k = N := by omega
        rcases hc with ⟨h1, h2⟩ | ⟨h1, h2, h3, h4⟩ | ⟨h1, h2⟩
        · have g1 : many ≤ (k : Int) := by omega
          clear h1 h2
          go_wp2
          go_ret
          exact next_post (by rw [← sNx_congr F a k HF.out]; exact hown) hnx
        · go_wp2
          go_ret
          exact next_post (by rw [← sNx_congr F a k HF.out]; exact hown) hnx
        · go_wp2
          go_ret
          exact next_post (by rw [← sNx_congr F a k HF.out]; exact hown) hnx
  · have HF := Lib.hid (rfirst_ge start short (by omega))
    generalize sFirst start short = a at *
    go_enter Try.func28, Try.ntmps28
    go_wp2_with (first | (go_at_call 31; refine (rshort_any _ _).mono ?_; rintro e w' ⟨rfl, rfl⟩) | (go_at_call 18; refine (rof_any _ _).mono ?_; rintro e w' ⟨rfl, rfl⟩))
    generalize hg : cOf start / 16777216 * 16777216 + sShort short = F at *
    have f3 : F ≤ 562949953421312 := by omega
    have f4 : 0 ≤ F := by omega
    clear b1 b2 c1 c2 f1 f2 hl hg
    go_loopw [7, 10] (fun v i wr => ∃ k : Nat, k ≤ N ∧ i = .int .i64 k ∧ wr.ownsRow w.heap.size 3 1 v k ((sNx F k).map (Value.int .i64)) ∧ Below w.heap.size w wr)
      (fun _ i _ => N - (intOf i).toNat)
    case atStart => exact ⟨0, Nat.zero_le _, rfl, World.ownsRow_nil _ _ _ _, Below.refl _ _⟩
    case round =>
      obtain ⟨k, hk, rfl, hown, hnx⟩ := hrel
      have hsz := hnx.size
      by_cases hlt : k < N
      · have hlt' : (k : Int) < many := by omega
        have hk' : (k : Int) < 100 := by omega
        go_wp2_with (first
          | (at_builtin; refine wpList_append_own _ rfl _ _ 29 rfl w.heap.size 3 i0 (.int .i64 0) 1 8 Try.underlying29 hi hz0 hz1 hz2 rfl (by decide) _ _ _ rfl (hown.alloc _) ⟨wr.heap.size, 0, none⟩ 1 1 [.int .i64 (cOf (F + (k : Int) * 16777216))] rfl rfl ?c1 ?c2 ?c3 ?c4 ?c5 ?_)
          | (go_at_call 18; refine (rof_any _ _).mono ?_; rintro e w' ⟨rfl, rfl⟩))
        case c1 =>
          intro j u hj
          match j, hj with
          | 0, hj => simp at hj; subst hj; simp [Addr.add]
        case c2 => intro u hu; simp at hu; subst hu; rfl
        case c3 => unfold maxLen; omega
        case c4 => omega
        case c5 => simp; omega
        intro v' w1 hown' hgrow _
        have R := nx_rel hsz hown hnx hown' hgrow
        clear hown' hgrow hown hnx
        go_wp2
        go_roundw
        case rel => exact ⟨k + 1, by omega, by go_num, R.1, R.2⟩
        case measure => simp [intOf]; omega
      · obtain rfl : k = N := by omega
        rcases hc with ⟨h1, h2⟩ | ⟨h1, h2, h3, h4⟩ | ⟨h1, h2⟩
        · have g1 : many ≤ (k : Int) := by omega
          clear h1 h2
          go_wp2
          go_ret
          exact next_post (by rw [← sNx_congr F a k HF.out]; exact hown) hnx
        · go_wp2
          go_ret
          exact next_post (by rw [← sNx_congr F a k HF.out]; exact hown) hnx
        · go_wp2
          go_ret
          exact next_post (by rw [← sNx_congr F a k HF.out]; exact hown) hnx

end Go.Proofs.Ytpnibmmpagecdaa
