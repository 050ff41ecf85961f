/-
  The law SchedStrict, walked.
-/
import Derived.Test.YtafmkalepgcnkaaBetter
namespace Go.Proofs.Ytafmkalepgcnkaa
open Go.RowKit Go.Sort

theorem bet_self (x : Ch) : bet x x = false := by
  cases h : bet x x
  · rfl
  · rw [bet_iff] at h; omega
theorem bet_anti (x y : Ch) (h : bet x y = true) : bet y x = false := by
  cases h2 : bet y x
  · rfl
  · rw [bet_iff] at h h2; omega
theorem bet_trans (x y z : Ch) (h : bet x y = true) (h' : bet y z = true) : bet x z = true := by
  rw [bet_iff] at *; omega
theorem bet_ids (x y : Ch) (h : x.id ≠ y.id) (h' : bet x y = false) : bet y x = true := by
  cases h2 : bet y x
  · exfalso
    have n1 : ¬ bet x y = true := by rw [h']; decide
    have n2 : ¬ bet y x = true := by rw [h2]; decide
    rw [bet_iff] at n1 n2
    omega
  · rfl

/-- The three paths, boxed, in a world of the call's. -/
structure Three (w W : World) (i1 p1 q1 : Int) (r1 : Bool) (i2 p2 q2 : Int) (r2 : Bool) (i3 p3 q3 : Int) (r3 : Bool) : Prop where
  one : W.heap[w.heap.size]? = some (.cells #[.int .i64 i1, .int .i64 p1, .int .i64 q1, .bool r1] 57 (0, 0))
  two : W.heap[w.heap.size + 1]? = some (.cells #[.int .i64 i2, .int .i64 p2, .int .i64 q2, .bool r2] 57 (0, 0))
  three : W.heap[w.heap.size + 1 + 1]? = some (.cells #[.int .i64 i3, .int .i64 p3, .int .i64 q3, .bool r3] 57 (0, 0))
  bel : Below w.heap.size w W
section
variable {w W W' : World} {i1 p1 q1 : Int} {r1 : Bool} {i2 p2 q2 : Int} {r2 : Bool} {i3 p3 q3 : Int} {r3 : Bool}
theorem Three.later (h : Three w W i1 p1 q1 r1 i2 p2 q2 r2 i3 p3 q3 r3) (hb : Below W.heap.size W W') : Three w W' i1 p1 q1 r1 i2 p2 q2 r2 i3 p3 q3 r3 :=
  ⟨(hb.block _ (lt_block h.one)).trans h.one, (hb.block _ (lt_block h.two)).trans h.two, (hb.block _ (lt_block h.three)).trans h.three, h.bel.trans (hb.mono (Nat.le_of_lt (lt_block h.one)))⟩
theorem Three.cells (h : Three w W i1 p1 q1 r1 i2 p2 q2 r2 i3 p3 q3 r3) :
    W.cell? ⟨w.heap.size, 0, none⟩ = some (.int .i64 i1) ∧ W.cell? ⟨w.heap.size, 1, none⟩ = some (.int .i64 p1) ∧ W.cell? ⟨w.heap.size, 2, none⟩ = some (.int .i64 q1) ∧ W.cell? ⟨w.heap.size, 3, none⟩ = some (.bool r1) ∧
    W.cell? ⟨w.heap.size + 1, 0, none⟩ = some (.int .i64 i2) ∧ W.cell? ⟨w.heap.size + 1, 1, none⟩ = some (.int .i64 p2) ∧ W.cell? ⟨w.heap.size + 1, 2, none⟩ = some (.int .i64 q2) ∧ W.cell? ⟨w.heap.size + 1, 3, none⟩ = some (.bool r2) ∧
    W.cell? ⟨w.heap.size + 1 + 1, 0, none⟩ = some (.int .i64 i3) ∧ W.cell? ⟨w.heap.size + 1 + 1, 1, none⟩ = some (.int .i64 p3) ∧ W.cell? ⟨w.heap.size + 1 + 1, 2, none⟩ = some (.int .i64 q3) ∧ W.cell? ⟨w.heap.size + 1 + 1, 3, none⟩ = some (.bool r3) := by
  refine ⟨?_, ?_, ?_, ?_, ?_, ?_, ?_, ?_, ?_, ?_, ?_, ?_⟩ <;> first
    | (rw [cell_of_row _ _ _ _ _ _ h.one]; rfl)
    | (rw [cell_of_row _ _ _ _ _ _ h.two]; rfl)
    | (rw [cell_of_row _ _ _ _ _ _ h.three]; rfl)
end
theorem Three.made (w : World) (i1 p1 q1 : Int) (r1 : Bool) (i2 p2 q2 : Int) (r2 : Bool) (i3 p3 q3 : Int) (r3 : Bool) :
    Three w (((w.alloc (.cells #[.int .i64 i1, .int .i64 p1, .int .i64 q1, .bool r1] 57)).alloc (.cells #[.int .i64 i2, .int .i64 p2, .int .i64 q2, .bool r2] 57)).alloc (.cells #[.int .i64 i3, .int .i64 p3, .int .i64 q3, .bool r3] 57)) i1 p1 q1 r1 i2 p2 q2 r2 i3 p3 q3 r3 := by
  refine ⟨?_, ?_, ?_, ((Below.refl _ _).alloc (Nat.le_refl _) _).alloc (by simp) _ |>.alloc (by simp; omega) _⟩
  · rw [heap_alloc_old _ _ (by simp; omega), heap_alloc_old _ _ (by simp), heap_alloc_new]
  · rw [heap_alloc_old _ _ (by simp), show w.heap.size + 1 = (w.alloc (.cells #[.int .i64 i1, .int .i64 p1, .int .i64 q1, .bool r1] 57)).heap.size by simp, heap_alloc_new]
  · rw [show w.heap.size + 1 + 1 = ((w.alloc (.cells #[.int .i64 i1, .int .i64 p1, .int .i64 q1, .bool r1] 57)).alloc (.cells #[.int .i64 i2, .int .i64 p2, .int .i64 q2, .bool r2] 57)).heap.size by simp, heap_alloc_new]

set_option maxHeartbeats 8000000 in
theorem strict_any (a b c : Ch) (w : World) : Calls Try.prog 10 #[.agg (chV a), .agg (chV b), .agg (chV c)] w fun e w' => e = .returned (.bool true) ∧ Below w.heap.size w w' := by
  have key : (bet a b = true ∧ bet b a = false ∧ ((bet b c = true ∧ bet a c = true) ∨ bet b c = false)) ∨ (bet a b = false ∧ (bet b a = true ∨ (bet b a = false ∧ a.id = b.id))) := by
    cases h1 : bet a b
    · right
      refine ⟨rfl, ?_⟩
      cases h2 : bet b a
      · right
        refine ⟨rfl, ?_⟩
        rcases Decidable.em (a.id = b.id) with h | h
        · exact h
        · have := bet_ids a b h h1; rw [h2] at this; cases this
      · exact .inl rfl
    · left
      refine ⟨rfl, bet_anti _ _ h1, ?_⟩
      cases h2 : bet b c
      · exact .inr rfl
      · exact .inl ⟨rfl, bet_trans _ _ _ h1 h2⟩
  have Kaa := fun W => better_at a a false (bet_self a) W
  have Kab := fun v h W => better_at a b v h W
  have Kba := fun v h W => better_at b a v h W
  have Kbc := fun v h W => better_at b c v h W
  have Kac := fun v h W => better_at a c v h W
  obtain ⟨vab, hab⟩ : ∃ v, bet a b = v := ⟨_, rfl⟩
  obtain ⟨vba, hba⟩ : ∃ v, bet b a = v := ⟨_, rfl⟩
  obtain ⟨vbc, hbc⟩ : ∃ v, bet b c = v := ⟨_, rfl⟩
  obtain ⟨vac, hac⟩ : ∃ v, bet a c = v := ⟨_, rfl⟩
  have kab := Kab vab hab
  have kba := Kba vba hba
  have kbc := Kbc vbc hbc
  have kac := Kac vac hac
  rw [hab, hba, hbc, hac] at key
  clear Kab Kba Kbc Kac hab hba hbc hac
  obtain ⟨i1, p1, q1, r1⟩ := a
  obtain ⟨i2, p2, q2, r2⟩ := b
  obtain ⟨i3, p3, q3, r3⟩ := c
  unfold chV at Kaa kab kba kbc kac ⊢
  simp only at key Kaa kab kba kbc kac ⊢
  have A1 : Aside _ := Kaa
  have A2 : Aside _ := kab
  have A3 : Aside _ := kba
  have A4 : Aside _ := kbc
  have A5 : Aside _ := kac
  clear Kaa kab kba kbc kac
  have hid : (i1 == i2) = true ∨ (i1 == i2) = false := by cases (i1 == i2) <;> simp
  have hkey : (vab = true ∧ vba = false ∧ ((vbc = true ∧ vac = true) ∨ vbc = false)) ∨ (vab = false ∧ (vba = true ∨ (vba = false ∧ (i1 == i2) = true))) := by
    rcases key with h | ⟨h1, h2 | ⟨h2, h3⟩⟩
    · exact .inl h
    · exact .inr ⟨h1, .inl h2⟩
    · exact .inr ⟨h1, .inr ⟨h2, by rw [beq_iff_eq]; exact h3⟩⟩
  clear key
  rcases hkey with ⟨rfl, rfl, ⟨rfl, rfl⟩ | rfl⟩ | ⟨rfl, rfl | ⟨rfl, hi⟩⟩
  all_goals
    rcases hid with he | he
    all_goals first
      | (exfalso; rw [hi] at he; cases he; done)
      | (go_enter Try.func10, Try.ntmps10
         go_wp2_with fail
         refine (works31 _).mono ?_
         rintro e w1 ⟨rfl, hb⟩
         have hT := (Three.made w i1 p1 q1 r1 i2 p2 q2 r2 i3 p3 q3 r3).later hb
         obtain ⟨x0, x1, x2, x3, y0, y1, y2, y3, z0, z1, z2, z3⟩ := hT.cells
         clear hb
         go_wp2_with (first
           | (go_at_call 36; ((with_reducible refine (A1.out _).mono ?_); rintro e w2 ⟨rfl, hg⟩; replace hT := hT.later hg.below; clear hg x0 x1 x2 x3 y0 y1 y2 y3 z0 z1 z2 z3; obtain ⟨x0, x1, x2, x3, y0, y1, y2, y3, z0, z1, z2, z3⟩ := hT.cells))
           | (go_at_call 36; ((with_reducible refine (A2.out _).mono ?_); rintro e w2 ⟨rfl, hg⟩; replace hT := hT.later hg.below; clear hg x0 x1 x2 x3 y0 y1 y2 y3 z0 z1 z2 z3; obtain ⟨x0, x1, x2, x3, y0, y1, y2, y3, z0, z1, z2, z3⟩ := hT.cells))
           | (go_at_call 36; ((with_reducible refine (A3.out _).mono ?_); rintro e w2 ⟨rfl, hg⟩; replace hT := hT.later hg.below; clear hg x0 x1 x2 x3 y0 y1 y2 y3 z0 z1 z2 z3; obtain ⟨x0, x1, x2, x3, y0, y1, y2, y3, z0, z1, z2, z3⟩ := hT.cells))
           | (go_at_call 36; ((with_reducible refine (A4.out _).mono ?_); rintro e w2 ⟨rfl, hg⟩; replace hT := hT.later hg.below; clear hg x0 x1 x2 x3 y0 y1 y2 y3 z0 z1 z2 z3; obtain ⟨x0, x1, x2, x3, y0, y1, y2, y3, z0, z1, z2, z3⟩ := hT.cells))
           | (go_at_call 36; ((with_reducible refine (A5.out _).mono ?_); rintro e w2 ⟨rfl, hg⟩; replace hT := hT.later hg.below; clear hg x0 x1 x2 x3 y0 y1 y2 y3 z0 z1 z2 z3; obtain ⟨x0, x1, x2, x3, y0, y1, y2, y3, z0, z1, z2, z3⟩ := hT.cells)))
         go_ret
         exact ⟨rfl, hT.bel⟩)

end Go.Proofs.Ytafmkalepgcnkaa
