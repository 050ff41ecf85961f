/-
  The law AddrsDoes: its step, walked.
-/
import Derived.Test.YtafmkalepgcnkaaDo
namespace Go.Proofs.Ytafmkalepgcnkaa
open Go.RowKit

section
variable (g : Option Addr) (c : Nat) (xs : List Int) (kind a : Int) (own : Bool) (w : World)

theorem do_out (hr : RowC w g c xs) (ha : a < 0 ∨ 15 < a) :
    Calls Try.prog 25 #[.slice g xs.length c, .agg #[.int .i64 kind, .bool own, .int .i64 a]] w (DoPost xs 3 w) := by
  rcases ha with ha | ha
  all_goals
    go_enter Try.func25, Try.ntmps25
    go_wp2
    go_ret2
    exact ⟨g, c, rfl, hr.later ((Below.refl _ _).alloc (Nat.le_refl _) _), (Below.refl _ _).alloc (Nat.le_refl _) _⟩

theorem do_twice (hr : RowC w g c xs) (l0 : xs.length ≤ 9223372036854775807) (h0 : 0 ≤ a) (h1 : a ≤ 15) (hk : kind < 2) (hin : inL xs a = true) :
    Calls Try.prog 25 #[.slice g xs.length c, .agg #[.int .i64 kind, .bool own, .int .i64 a]] w (DoPost xs 9 w) := by
  have hR := Lib.hid ((hr.later ((Below.refl _ _).alloc (Nat.le_refl _) (.cells #[.int .i64 kind, .bool own, .int .i64 a] 48))).row3.row)
  go_enter Try.func25, Try.ntmps25
  go_wp2_with (go_at_call 29; refine (inList_any _ _ xs _ _ hR.out l0).mono ?_; rintro e w' ⟨rfl, rfl⟩)
  go_ret2
  exact ⟨g, c, rfl, hr.later ((Below.refl _ _).alloc (Nat.le_refl _) _), (Below.refl _ _).alloc (Nat.le_refl _) _⟩

theorem do_full (hr : RowC w g c xs) (l0 : xs.length ≤ 9223372036854775807) (h0 : 0 ≤ a) (h1 : a ≤ 15) (hk : kind < 2) (hin : inL xs a = false) (h4 : 4 ≤ xs.length) :
    Calls Try.prog 25 #[.slice g xs.length c, .agg #[.int .i64 kind, .bool own, .int .i64 a]] w (DoPost xs 6 w) := by
  have hR := Lib.hid ((hr.later ((Below.refl _ _).alloc (Nat.le_refl _) (.cells #[.int .i64 kind, .bool own, .int .i64 a] 48))).row3.row)
  have h4' : (4 : Int) ≤ (xs.length : Int) := by omega
  go_enter Try.func25, Try.ntmps25
  go_wp2_with (go_at_call 29; refine (inList_any _ _ xs _ _ hR.out l0).mono ?_; rintro e w' ⟨rfl, rfl⟩)
  go_ret2
  exact ⟨g, c, rfl, hr.later ((Below.refl _ _).alloc (Nat.le_refl _) _), (Below.refl _ _).alloc (Nat.le_refl _) _⟩

theorem do_none (hr : RowC w g c xs) (l0 : xs.length ≤ 9223372036854775807) (h0 : 0 ≤ a) (h1 : a ≤ 15) (hk : 2 ≤ kind) (hin : inL xs a = false) :
    Calls Try.prog 25 #[.slice g xs.length c, .agg #[.int .i64 kind, .bool own, .int .i64 a]] w (DoPost xs 8 w) := by
  have hR := Lib.hid ((hr.later ((Below.refl _ _).alloc (Nat.le_refl _) (.cells #[.int .i64 kind, .bool own, .int .i64 a] 48))).row3.row)
  go_enter Try.func25, Try.ntmps25
  go_wp2_with (go_at_call 29; refine (inList_any _ _ xs _ _ hR.out l0).mono ?_; rintro e w' ⟨rfl, rfl⟩)
  go_ret2
  exact ⟨g, c, rfl, hr.later ((Below.refl _ _).alloc (Nat.le_refl _) _), (Below.refl _ _).alloc (Nat.le_refl _) _⟩

theorem do_last (hr : RowC w g c xs) (l0 : xs.length ≤ 9223372036854775807) (h0 : 0 ≤ a) (h1 : a ≤ 15) (hk : 2 ≤ kind) (hin : inL xs a = true) (hl : xs.length = 1) :
    Calls Try.prog 25 #[.slice g xs.length c, .agg #[.int .i64 kind, .bool own, .int .i64 a]] w (DoPost xs 16 w) := by
  have hR := Lib.hid ((hr.later ((Below.refl _ _).alloc (Nat.le_refl _) (.cells #[.int .i64 kind, .bool own, .int .i64 a] 48))).row3.row)
  have hl' : ((xs.length : Int) == 1) = true := by rw [hl]; rfl
  clear hl
  go_enter Try.func25, Try.ntmps25
  go_wp2_with (go_at_call 29; refine (inList_any _ _ xs _ _ hR.out l0).mono ?_; rintro e w' ⟨rfl, rfl⟩)
  go_ret2
  exact ⟨g, c, rfl, hr.later ((Below.refl _ _).alloc (Nat.le_refl _) _), (Below.refl _ _).alloc (Nat.le_refl _) _⟩

end

/-- What is left of the first k of a list when an address is taken away. -/
def fl (xs : List Int) (a : Int) (k : Nat) : List Int := (xs.take k).filter (· != a)
theorem fl_step (xs : List Int) (a : Int) (k : Nat) (hk : k < xs.length) : fl xs a (k + 1) = fl xs a k ++ (if xs[k]?.getD 0 == a then [] else [xs[k]?.getD 0]) := by
  unfold fl
  rw [List.take_add_one, List.getElem?_eq_getElem hk, List.filter_append]
  congr 1
  by_cases h : xs[k] = a <;> simp [h]
theorem fl_le (xs : List Int) (a : Int) (k : Nat) : (fl xs a k).length ≤ k := Nat.le_trans (List.length_filter_le _ _) (List.length_take_le _ _)

set_option maxHeartbeats 2000000 in
theorem do_drop (g : Option Addr) (c : Nat) (xs : List Int) (kind a : Int) (own : Bool) (w : World) (hr : RowC w g c xs) (l0 : xs.length ≤ 1000) (h0 : 0 ≤ a) (h1 : a ≤ 15) (hk : 2 ≤ kind) (hin : inL xs a = true) (hl : xs.length ≠ 1) :
    Calls Try.prog 25 #[.slice g xs.length c, .agg #[.int .i64 kind, .bool own, .int .i64 a]] w (DoPost (fl xs a xs.length) 0 w) := by
  obtain ⟨i0, hi, hz0, hz1, hz2⟩ := info_parts Try.info3
  have hR := Lib.hid ((hr.later ((Below.refl _ _).alloc (Nat.le_refl _) (.cells #[.int .i64 kind, .bool own, .int .i64 a] 48))).row3)
  have hl' : ((xs.length : Int) == 1) = false := by rw [beq_eq_false_iff_ne]; omega
  clear hl
  go_enter Try.func25, Try.ntmps25
  go_wp2_with (go_at_call 29; refine (inList_any _ _ xs _ _ hR.out.row (by omega)).mono ?_; rintro e w' ⟨rfl, rfl⟩)
  have hbox : (w.alloc (.cells #[.int .i64 kind, .bool own, .int .i64 a] 48)).cell? ⟨w.heap.size, 2, none⟩ = some (.int .i64 a) := by rw [World.cell?_alloc_at _ _ _ _ rfl]; rfl
  have hsz : (w.alloc (.cells #[.int .i64 kind, .bool own, .int .i64 a] 48)).heap.size = w.heap.size + 1 := by simp
  have HB := Lib.hid hbox
  have HZ := Lib.hid hsz
  clear hbox hsz
  go_loopw [6, 7] (fun v t wr => ∃ k : Nat, k ≤ xs.length ∧ t = .int .i64 k ∧ wr.ownsRow (w.heap.size + 1) 3 1 v (fl xs a k).length ((fl xs a k).map (Value.int .i64)) ∧ Below (w.heap.size + 1) (w.alloc (.cells #[.int .i64 kind, .bool own, .int .i64 a] 48)) wr) (fun _ t _ => xs.length - (intOf t).toNat)
  case atStart => exact ⟨0, Nat.zero_le _, rfl, World.ownsRow_nil _ _ _ _, Below.refl _ _⟩
  case round =>
    obtain ⟨k, hk', rfl, hown, hnx⟩ := hrel
    have hs : w.heap.size + 1 ≤ wr.heap.size := by have := hnx.size; rw [HZ.out] at this; exact this
    have hle := fl_le xs a k
    by_cases hlt : k < xs.length
    · have hlt' : (k : Int) < (xs.length : Int) := by omega
      have hF := Lib.hid (fl_step xs a k hlt)
      have hbx : wr.cell? ⟨w.heap.size, 2, none⟩ = some (.int .i64 a) := (hnx.cell (p := ⟨w.heap.size, 2, none⟩) (by show w.heap.size < _; omega)).trans HB.out
      have hrow : Row3 wr g xs := by
        rcases hR.out with h | ⟨b, cur, hg, hh, hc⟩
        · exact .inl h
        · exact .inr ⟨b, cur, hg, (hnx.block b (by have := lt_block hh; rw [HZ.out] at this; exact this)).trans hh, hc⟩
      obtain ⟨b0, e0, c0⟩ := hrow.get hlt
      generalize xs[k]?.getD 0 = x at *
      subst e0
      clear hrow hR hr
      by_cases hx : x = a
      · subst hx
        rw [if_pos (by simp)] at hF
        go_wp2
        go_quiet (fail)
        go_wp2
        go_roundw
        case rel => exact ⟨k + 1, by omega, by go_num, by rw [hF.out, List.append_nil]; exact hown.kept (row := none) (grownBy_of_below (below_drewN _ (Below.refl _ _)) none) (by cases hv : Value.ownBlock _ <;> simp), below_drewN _ hnx⟩
        case measure => simp [intOf]; omega
      · have hx' : (x == a) = false := by rw [beq_eq_false_iff_ne]; exact hx
        rw [if_neg (by rw [hx']; decide)] at hF
        clear hx
        go_wp2
        go_quiet (fail)
        have hown1 := hown.kept (row := none) (grownBy_of_below (below_drewN nq (Below.refl _ wr)) none) (by cases hv : Value.ownBlock _ <;> simp)
        have hnx1 := below_drewN nq hnx
        have hs1 : w.heap.size + 1 ≤ (wr.drewN nq).heap.size := hs
        clear hown hnx
        have hbx1 : (wr.drewN nq).cell? ⟨b0, k, none⟩ = some (.int .i64 x) := c0
        go_wp2_with (at_builtin; refine wpList_append_own _ rfl _ _ 23 rfl (w.heap.size + 1) 3 i0 (.int .i64 0) 1 8 Try.underlying23 hi hz0 hz1 hz2 rfl (by decide) _ _ _ rfl (hown1.alloc _) ⟨wr.heap.size, 0, none⟩ 1 1 [.int .i64 x] rfl rfl ?c1 ?c2 ?c3 ?c4 ?c5 ?_)
        case c1 =>
          intro j u hj
          match j, hj with
          | 0, hj => simp at hj; subst hj; exact (cell_of_row ((wr.drewN nq).alloc (.cells #[.int .i64 x] 3)) wr.heap.size 0 _ _ _ (heap_alloc_new (wr.drewN nq) _)).trans rfl
        case c2 => intro u hu; simp at hu; subst hu; rfl
        case c3 => unfold maxLen; omega
        case c4 => omega
        case c5 => simp; omega
        intro v' w1 hown' hgrow _
        have R := own_snoc hs1 hown1 hnx1 hown' hgrow
        clear hown' hgrow hown1 hnx1 hbx hbx1
        go_wp2
        go_roundw
        case rel => exact ⟨k + 1, by omega, by go_num, by rw [hF.out, List.length_append]; exact R.1, R.2⟩
        case measure => simp [intOf]; omega
    · obtain rfl : k = xs.length := by omega
      obtain ⟨g', c', hv, hrc, -⟩ := RowC.of hown
      subst hv
      go_wp2
      go_ret2
      refine ⟨g', c', rfl, hrc, ?_⟩
      refine Below.trans ?_ (hnx.mono (by omega))
      go_grown

end Go.Proofs.Ytafmkalepgcnkaa
