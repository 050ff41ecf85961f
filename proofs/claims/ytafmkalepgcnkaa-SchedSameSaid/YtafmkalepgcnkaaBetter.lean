/-
  Package sched: Better, the document's own Better, and the laws' own trial, walked.
-/
import Derived.Test.YtafmkalepgcnkaaPick
namespace Go.Proofs.Ytafmkalepgcnkaa
open Go.RowKit Go.Sort

set_option maxHeartbeats 2000000 in
theorem better_any (x y : Ch) (w : World) : Calls Try.prog 36 #[.agg (chV x), .agg (chV y)] w fun e w' => e = .returned (.bool (bet x y)) ∧ Gro w w' := by
  have h := fun W => compare_any x y W
  unfold bet
  obtain ⟨i1, p1, c1, r1⟩ := x
  obtain ⟨i2, p2, c2, r2⟩ := y
  unfold chV at h ⊢
  generalize cmpC ⟨i1, p1, c1, r1⟩ ⟨i2, p2, c2, r2⟩ = N at h ⊢
  have HH : Aside _ := h
  clear h
  go_enter Try.func36, Try.ntmps36
  go_wp2_with (go_at_call 43; refine (HH.out _).mono ?_; rintro e w' ⟨rfl, hg⟩)
  go_ret
  exact ⟨rfl, (((Gro.refl w).alloc _).alloc _).trans hg⟩
theorem better_at (x y : Ch) (v : Bool) (h : bet x y = v) (w : World) : Calls Try.prog 36 #[.agg (chV x), .agg (chV y)] w fun e w' => e = .returned (.bool v) ∧ Gro w w' := by
  rw [← h]; exact better_any x y w

set_option maxHeartbeats 2000000 in
theorem refBetter_any (x y : Ch) (w : World) : Calls Try.prog 37 #[.agg (chV x), .agg (chV y)] w fun e w' => e = .returned (.bool (bet x y)) ∧ Gro w w' := by
  have hb := bet_iff x y
  obtain ⟨v, hv⟩ : ∃ v, bet x y = v := ⟨_, rfl⟩
  rw [hv] at hb ⊢
  clear hv
  obtain ⟨i1, p1, c1, r1⟩ := x
  obtain ⟨i2, p2, c2, r2⟩ := y
  unfold chV
  simp only at hb
  by_cases hp : p1 = p2
  · have hp1 : (p1 != p2) = false := by rw [bne_eq_false_iff_eq]; exact hp
    have hp2 : (p1 == p2) = true := by rw [beq_iff_eq]; exact hp
    by_cases hc : c1 = c2
    · have hc1 : (c1 != c2) = false := by rw [bne_eq_false_iff_eq]; exact hc
      have hc2 : (c1 == c2) = true := by rw [beq_iff_eq]; exact hc
      have hd : decide (i1 < i2) = v := by rw [Bool.eq_iff_iff, decide_eq_true_iff, hb]; omega
      clear hb hp hc
      go_enter Try.func37, Try.ntmps37
      go_wp2
      go_ret
      exact ⟨rfl, ((Gro.refl w).alloc _).alloc _⟩
    · have hc1 : (c1 != c2) = true := by rw [bne_iff_ne]; exact hc
      have hc2 : (c1 == c2) = false := by rw [beq_eq_false_iff_ne]; exact hc
      have hd : decide (c1 < c2) = v := by rw [Bool.eq_iff_iff, decide_eq_true_iff, hb]; omega
      clear hb hp hc
      go_enter Try.func37, Try.ntmps37
      go_wp2
      go_ret
      exact ⟨rfl, ((Gro.refl w).alloc _).alloc _⟩
  · have hp1 : (p1 != p2) = true := by rw [bne_iff_ne]; exact hp
    have hp2 : (p1 == p2) = false := by rw [beq_eq_false_iff_ne]; exact hp
    have hd : decide (p1 < p2) = v := by rw [Bool.eq_iff_iff, decide_eq_true_iff, hb]; omega
    clear hb hp
    go_enter Try.func37, Try.ntmps37
    go_wp2
    go_ret
    exact ⟨rfl, ((Gro.refl w).alloc _).alloc _⟩

/-- Two paths in a row of their own. -/
theorem chIn_two (x y : Ch) (w : World) (b : Nat) (h : w.heap[b]? = some (.cells #[.int .i64 x.id, .int .i64 x.prio, .int .i64 x.cost, .bool x.room, .int .i64 y.id, .int .i64 y.prio, .int .i64 y.cost, .bool y.room] 57 (0, 0))) : ChIn w (some ⟨b, 0, none⟩) [x, y] := by
  refine .inr ⟨b, 0, rfl, lt_block h, fun j c hj => ?_⟩
  match j, hj with
  | 0, hj =>
    simp only [List.getElem?_cons_zero, Option.some.injEq] at hj
    subst hj
    refine ⟨?_, ?_, ?_, ?_⟩ <;> rw [cell_of_row _ _ _ _ _ _ h] <;> rfl
  | 1, hj =>
    simp only [List.getElem?_cons_succ, List.getElem?_cons_zero, Option.some.injEq] at hj
    subst hj
    refine ⟨?_, ?_, ?_, ?_⟩ <;> rw [cell_of_row _ _ _ _ _ _ h] <;> rfl

theorem srt_two (x y : Ch) (h : bet y x = true) : srt [x, y] = [⟨y, 1⟩, ⟨x, 0⟩] := by
  refine (srt_eq ⟨?_, ?_⟩).symm
  · exact List.Perm.swap _ _ _
  · rw [List.pairwise_cons]
    refine ⟨fun z hz => ?_, List.pairwise_singleton _ _⟩
    simp only [List.mem_singleton] at hz
    subst hz
    unfold lt2
    rw [h]; rfl

set_option maxHeartbeats 2000000 in
theorem works31 (w : World) : Calls Try.prog 32 #[] w fun e w' => e = .returned (.bool true) ∧ Below w.heap.size w w' := by
  have h1 : ∀ (b : Nat) (W : World), W.heap[b]? = some (.cells #[.int .i64 1, .int .i64 0, .int .i64 8, .bool true, .int .i64 2, .int .i64 0, .int .i64 5, .bool true] 57 (0, 0)) →
      Calls Try.prog 33 #[.slice (some ⟨b, 0, none⟩) 2 2] W fun e w' => e = .returned (.tuple #[.int .i64 2, .bool true]) ∧ Below W.heap.size W w' := fun b W hb => by
    have h := pick_any (some ⟨b, 0, none⟩) 2 [⟨1, 0, 8, true⟩, ⟨2, 0, 5, true⟩] W (chIn_two _ _ W b hb) (by decide)
    rw [srt_two _ _ (by decide)] at h
    exact h
  have h2 : ∀ (b : Nat) (W : World), W.heap[b]? = some (.cells #[.int .i64 7, .int .i64 1, .int .i64 0, .bool false, .int .i64 9, .int .i64 0, .int .i64 0, .bool false] 57 (0, 0)) →
      Calls Try.prog 34 #[.slice (some ⟨b, 0, none⟩) 2 2] W (ListPost W.heap.size [9, 7] 2 W) := fun b W hb => by
    have h := order_any (some ⟨b, 0, none⟩) 2 [⟨7, 1, 0, false⟩, ⟨9, 0, 0, false⟩] W (chIn_two _ _ W b hb) (by decide)
    rw [srt_two _ _ (by decide)] at h
    exact h
  have H1 : Aside _ := h1
  have H2 : Aside _ := h2
  clear h1 h2
  go_enter Try.func32, Try.ntmps32
  go_wp2_with fail
  refine (H1.out _ _ (heap_alloc_new w _)).mono ?_
  rintro e w1 ⟨rfl, hb1⟩
  have hw1 := ((Below.refl w.heap.size w).alloc (Nat.le_refl _) (.cells #[.int .i64 1, .int .i64 0, .int .i64 8, .bool true, .int .i64 2, .int .i64 0, .int .i64 5, .bool true] 57)).trans (hb1.mono (by simp))
  clear hb1
  go_wp2_with fail
  refine (H2.out _ _ (heap_alloc_new w1 _)).mono ?_
  rintro e w2 ⟨g, cap, rfl, hown, hb2⟩
  have hw2 := (hw1.alloc hw1.size (.cells #[.int .i64 7, .int .i64 1, .int .i64 0, .bool false, .int .i64 9, .int .i64 0, .int .i64 0, .bool false] 57)).trans (hb2.mono (by have := hw1.size; simp; omega))
  have hr := (Row3.of hown).later ((Below.refl _ _).alloc (Nat.le_refl _) (.cells #[.int .i64 9, .int .i64 7] 3))
  have hr2 : Row3 (w2.alloc (.cells #[.int .i64 9, .int .i64 7] 3)) (some ⟨w2.heap.size, 0, none⟩) [9, 7] := .inr ⟨_, _, rfl, heap_alloc_new w2 _, fun j hj => by
    match j, hj with
    | 0, _ => rfl
    | 1, _ => rfl⟩
  clear hb2 hown hw1
  go_wp2_with fail
  refine (ints_same g (some ⟨w2.heap.size, 0, none⟩) cap 2 [9, 7] _ hr.row hr2.row (by decide)).mono ?_
  rintro e w3 ⟨rfl, hb3⟩
  have hw3 := (hw2.alloc hw2.size (.cells #[.int .i64 9, .int .i64 7] 3)).trans (hb3.mono (by have := hw2.size; simp; omega))
  clear hb3 hr hr2
  go_wp2
  go_ret
  exact ⟨rfl, hw3⟩

end Go.Proofs.Ytafmkalepgcnkaa
