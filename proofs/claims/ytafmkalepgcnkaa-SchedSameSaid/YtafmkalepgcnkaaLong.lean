/-
  Walks over backoff's loop, and over the law's own list.
-/
import Derived.Test.YtafmkalepgcnkaaBack
namespace Go.Proofs.Ytafmkalepgcnkaa
open Go.RowKit

/-- A struct of three integers stands in a block of the call's own. -/
structure Cell3 (B : Nat) (w : World) (v : Value) (x y z : Int) : Prop where
  is : ∃ b, v = .pointer (some ⟨b, 0, none⟩) ∧ B ≤ b ∧ w.heap[b]? = some (.cells #[.int .i64 x, .int .i64 y, .int .i64 z] 26 (0, 0))

theorem Cell3.later {B : Nat} {w w' : World} {v : Value} {x y z : Int} (h : Cell3 B w v x y z) (hb : Below w.heap.size w w') : Cell3 B w' v x y z := by
  obtain ⟨b, hv, hB, hh⟩ := h.is
  exact ⟨b, hv, hB, (hb.block b (Array.getElem?_eq_some_iff.1 hh).1).trans hh⟩

theorem Cell3.new {B : Nat} (w : World) (x y z : Int) (h : B ≤ w.heap.size) : Cell3 B (w.alloc (.cells #[.int .i64 x, .int .i64 y, .int .i64 z] 26)) (.pointer (some ⟨w.heap.size, 0, none⟩)) x y z :=
  ⟨_, rfl, h, heap_alloc_new w _⟩

theorem Cell3.at {B n : Nat} {w : World} {x y z : Int} (hn : w.heap.size = n) (h : B ≤ n) : Cell3 B (w.alloc (.cells #[.int .i64 x, .int .i64 y, .int .i64 z] 26)) (.pointer (some ⟨n, 0, none⟩)) x y z := by
  subst hn; exact Cell3.new _ _ _ _ h

theorem begin_m {ticks m : Int} (hm : bFirst ticks = m) (w : World) : Calls Try.prog 14 #[.int .i64 ticks] w fun e w' => e = .returned (.agg #[.int .i64 m, .int .i64 m, .int .i64 0]) ∧ Below w.heap.size w w' := by
  subst hm; exact begin_any _ _

set_option maxHeartbeats 1000000 in
theorem longest_any (ticks m : Int) (hm : bFirst ticks = m) (w : World) : Calls Try.prog 19 #[.int .i64 ticks] w fun e w' => e = .returned (.int .i64 (bSum m 7)) ∧ Below w.heap.size w w' := by
  have m1 := bFirst_lo ticks
  have m2 := bFirst_hi ticks
  rw [hm] at m1 m2
  have HM := Lib.hid hm
  clear hm
  have S := bSum_bd m m1 m2 7
  go_enter Try.func19, Try.ntmps19
  go_wp2_with (go_at_call 14; refine (begin_m HM.out _).mono ?_; rintro e w' ⟨rfl, hb⟩)
  go_loopw [4, 5, 3] (fun o p n wr => (∃ (i : Nat) (lf : Int), i ≤ 6 ∧ 1 ≤ lf ∧ lf ≤ bN m i ∧ o = .bool false ∧ Cell3 w.heap.size wr p (bN m i) lf i ∧ n = .int .i64 (bSum m i + (bN m i - lf)) ∧ Below w.heap.size w wr)
      ∨ (o = .bool true ∧ n = .int .i64 (bSum m 7) ∧ Below w.heap.size w wr)) (fun _ _ n _ => (bSum m 7 - intOf n).toNat)
  case atStart => exact .inl ⟨0, m, by omega, m1, Int.le_refl _, rfl, Cell3.new _ _ _ _ hb.size, by simp [bSum, bN], hb.alloc hb.size _⟩
  case round =>
    clear hb
    rcases hrel with ⟨i, lf, hi, hl1, hl2, rfl, hc, rfl, hbb⟩ | ⟨rfl, rfl, hbb⟩
    · obtain ⟨b, rfl, hB, hh⟩ := hc.is
      have nb := bN_bd m m1 m2 i
      have hlt := bSum_lt m m1 m2 i hi lf hl1
      have s0 := bSum_bd m m1 m2 i
      have r0 : wr.cell? ⟨b, 0, none⟩ = some (.int .i64 (bN m i)) := by rw [cell_of_row wr b 0 _ _ _ hh]; rfl
      have r1 : wr.cell? ⟨b, 1, none⟩ = some (.int .i64 lf) := by rw [cell_of_row wr b 1 _ _ _ hh]; rfl
      have r2 : wr.cell? ⟨b, 2, none⟩ = some (.int .i64 i) := by rw [cell_of_row wr b 2 _ _ _ hh]; rfl
      by_cases hl : 2 ≤ lf
      · clear hh
        go_wp2_with fail
        refine (tick_on _ _ _ nb.1 hl (by omega) _).mono ?_
        rintro e w1 ⟨rfl, hb1⟩
        have hc1 := hc.later hb1
        have hs1 := Nat.le_trans hbb.size hb1.size
        have hb2 := hbb.trans (hb1.mono hbb.size)
        clear hc r0 r1 r2
        obtain ⟨b', hb', hB', hh⟩ := hc1.is
        simp only [Value.pointer.injEq, Option.some.injEq, Addr.mk.injEq, and_true] at hb'
        subst hb'
        have r0 : w1.cell? ⟨b, 0, none⟩ = some (.int .i64 (bN m i)) := by rw [cell_of_row w1 b 0 _ _ _ hh]; rfl
        have r1 : w1.cell? ⟨b, 1, none⟩ = some (.int .i64 lf) := by rw [cell_of_row w1 b 1 _ _ _ hh]; rfl
        have r2 : w1.cell? ⟨b, 2, none⟩ = some (.int .i64 i) := by rw [cell_of_row w1 b 2 _ _ _ hh]; rfl
        have f0 := frozen_of_row w1 b 0 _ _ hh
        have f1 := frozen_of_row w1 b 1 _ _ hh
        have f2 := frozen_of_row w1 b 2 _ _ hh
        clear hh hc1
        go_wp2
        go_roundw
        case rel => exact .inl ⟨i, lf - 1, hi, by omega, by omega, rfl, Cell3.at (by simp) hs1, by go_num, by go_grown⟩
        case measure => simp [intOf]; omega
      · obtain rfl : lf = 1 := by omega
        by_cases hi6 : i = 6
        · subst hi6
          clear hh
          go_wp2_with fail
          refine (tick_over _ nb.1 _).mono ?_
          rintro e w1 ⟨rfl, hb1⟩
          have hc1 := hc.later hb1
          have hs1 := Nat.le_trans hbb.size hb1.size
          have hb2 := hbb.trans (hb1.mono hbb.size)
          clear hc r0 r1 r2
          obtain ⟨b', hb', hB', hh⟩ := hc1.is
          simp only [Value.pointer.injEq, Option.some.injEq, Addr.mk.injEq, and_true] at hb'
          subst hb'
          have r0 : w1.cell? ⟨b, 0, none⟩ = some (.int .i64 (bN m 6)) := by rw [cell_of_row w1 b 0 _ _ _ hh]; rfl
          have r1 : w1.cell? ⟨b, 1, none⟩ = some (.int .i64 1) := by rw [cell_of_row w1 b 1 _ _ _ hh]; rfl
          have r2 : w1.cell? ⟨b, 2, none⟩ = some (.int .i64 6) := by rw [cell_of_row w1 b 2 _ _ _ hh]; rfl
          have f0 := frozen_of_row w1 b 0 _ _ hh
          have f1 := frozen_of_row w1 b 1 _ _ hh
          have f2 := frozen_of_row w1 b 2 _ _ hh
          clear hh hc1
          go_wp2
          go_roundw
          case rel => exact .inr ⟨rfl, by show Value.int .i64 (bSum m 6 + (bN m 6 - 1) + 1) = .int .i64 (bSum m 6 + bN m 6); go_num, by go_grown⟩
          case measure => simp [intOf]; omega
        · clear hh
          go_wp2_with fail
          refine (tick_say _ _ nb.1 nb.2 (by omega) (by omega) _).mono ?_
          rintro e w1 ⟨rfl, hb1⟩
          have hc1 := hc.later hb1
          have hs1 := Nat.le_trans hbb.size hb1.size
          have hb2 := hbb.trans (hb1.mono hbb.size)
          clear hc r0 r1 r2
          obtain ⟨b', hb', hB', hh⟩ := hc1.is
          simp only [Value.pointer.injEq, Option.some.injEq, Addr.mk.injEq, and_true] at hb'
          subst hb'
          have r0 : w1.cell? ⟨b, 0, none⟩ = some (.int .i64 (bN m i)) := by rw [cell_of_row w1 b 0 _ _ _ hh]; rfl
          have r1 : w1.cell? ⟨b, 1, none⟩ = some (.int .i64 1) := by rw [cell_of_row w1 b 1 _ _ _ hh]; rfl
          have r2 : w1.cell? ⟨b, 2, none⟩ = some (.int .i64 i) := by rw [cell_of_row w1 b 2 _ _ _ hh]; rfl
          have f0 := frozen_of_row w1 b 0 _ _ hh
          have f1 := frozen_of_row w1 b 1 _ _ hh
          have f2 := frozen_of_row w1 b 2 _ _ hh
          clear hh hc1
          go_wp2
          go_roundw
          case rel => exact .inl ⟨i + 1, bN m (i + 1), by omega, (bN_bd m m1 m2 (i + 1)).1, Int.le_refl _, rfl, Cell3.at (by simp) hs1, by show Value.int .i64 _ = .int .i64 (bSum m i + bN m i + (bN m (i + 1) - bN m (i + 1))); go_num, by go_grown⟩
          case measure => simp [intOf]; omega
    · go_wp2
      go_ret
      exact ⟨rfl, hbb⟩

end Go.Proofs.Ytafmkalepgcnkaa
