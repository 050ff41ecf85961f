/-
  Arguments that are paths: one by value, or a slice of them.
-/
import Derived.Test.YtafmkalepgcnkaaStructs
import Derived.Test.YtafmkalepgcnkaaPlRow
import Derived.Lib.SmallJoins
namespace Go.Proofs.Ytafmkalepgcnkaa
open Go.RowKit Go.ChangeShapes Go.WideShapes Go.Deep

theorem choice_of {H : Type} {enc : TypeId × Value → H} {w : World} {base : Nat} {spare : Nat → Bool} {held : Bool} {r : Reach} {b0 : Nat} {v : Value} {d : DataW H} {p : List MemPlace}
    (hv : Value.okWide Try.prog w r b0 57 v) (h : DataW.Trod enc Try.prog w base spare held 57 v d p) : ∃ c : Ch, v = .agg (chV c) := by
  obtain ⟨v0, v1, v2, v3, y0, y1, y2, y3, n, rfl, _, _, t0, t1, t2, t3⟩ := Go.Joins.open_agg4 Try.underlying57 (by kernel_rfl) (by kernel_rfl) hv h
  obtain ⟨z0, e0, _⟩ := DataW.trod_int Try.underlying3 t0
  obtain ⟨z1, e1, _⟩ := DataW.trod_int Try.underlying3 t1
  obtain ⟨z2, e2, _⟩ := DataW.trod_int Try.underlying3 t2
  obtain ⟨z3, e3, _⟩ := DataW.trod_bool Try.underlying4 t3
  simp only [List.cons.injEq, and_true] at e0 e1 e2 e3
  subst e0 e1 e2 e3
  exact ⟨⟨z0, z1, z2, z3⟩, rfl⟩

theorem choices_of {H : Type} {enc : TypeId × Value → H} {w : World} {base : Nat} {spare : Nat → Bool} {held : Bool} {fuel : Nat} {g : Option Addr} {len cap : Nat} {x : DataW H × List MemPlace}
    (h : DataW.trod enc Try.prog w base spare held fuel 55 (Value.slice g len cap).cells.toList = some x) : ∃ l : List Ch, l.length = len ∧ ChIn w g l := by
  rcases structs_cells Try.underlying55 Try.underlying57 (by kernel_rfl) (by kernel_rfl) h with ⟨_, rfl, _⟩ | ⟨a, rfl, hl, hm, hc⟩
  · exact ⟨[], rfl, .inl rfl⟩
  · by_cases h0 : len = 0
    · subst h0; exact ⟨[], rfl, .inl rfl⟩
    · have key : ∀ i, ∃ s : Ch, i < len → w.cell? (a.add (i * 4)) = some (.int .i64 s.id) ∧ w.cell? (a.add (i * 4 + 1)) = some (.int .i64 s.prio) ∧ w.cell? (a.add (i * 4 + 2)) = some (.int .i64 s.cost) ∧ w.cell? (a.add (i * 4 + 3)) = some (.bool s.room) := by
        intro i
        by_cases hi : i < len
        · obtain ⟨v0, y0, n0, c0, t0⟩ := hc i hi 0 _ rfl
          obtain ⟨v1, y1, n1, c1, t1⟩ := hc i hi 1 _ rfl
          obtain ⟨v2, y2, n2, c2, t2⟩ := hc i hi 2 _ rfl
          obtain ⟨v3, y3, n3, c3, t3⟩ := hc i hi 3 _ rfl
          obtain ⟨z0, e0, _⟩ := DataW.trod_int Try.underlying3 t0
          obtain ⟨z1, e1, _⟩ := DataW.trod_int Try.underlying3 t1
          obtain ⟨z2, e2, _⟩ := DataW.trod_int Try.underlying3 t2
          obtain ⟨z3, e3, _⟩ := DataW.trod_bool Try.underlying4 t3
          simp only [List.cons.injEq, and_true] at e0 e1 e2 e3
          subst e0 e1 e2 e3
          exact ⟨⟨z0, z1, z2, z3⟩, fun _ => ⟨c0, c1, c2, c3⟩⟩
        · exact ⟨⟨0, 0, 0, false⟩, fun h => absurd h hi⟩
      obtain ⟨s, hs⟩ : ∃ s : Nat → Ch, ∀ i, i < len → w.cell? (a.add (i * 4)) = some (.int .i64 (s i).id) ∧ w.cell? (a.add (i * 4 + 1)) = some (.int .i64 (s i).prio) ∧ w.cell? (a.add (i * 4 + 2)) = some (.int .i64 (s i).cost) ∧ w.cell? (a.add (i * 4 + 3)) = some (.bool (s i).room) :=
        ⟨fun i => (key i).choose, fun i => (key i).choose_spec⟩
      obtain ⟨b, off, spot⟩ := a
      have hsp := World.cell?_spot (hs 0 (by omega)).1
      simp only [Addr.add] at hsp
      have hspot : spot = none := by simpa using hsp
      subst hspot
      refine ⟨(List.range len).map s, by simp, .inr ⟨b, off, rfl, World.block_lt_of_cell? w _ (hs 0 (by omega)).1, fun j st hj => ?_⟩⟩
      rw [List.getElem?_map] at hj
      obtain ⟨i, hi, rfl⟩ := Option.map_eq_some_iff.1 hj
      obtain ⟨hi1, hi2⟩ := List.getElem?_eq_some_iff.1 hi
      simp only [List.length_range] at hi1
      simp only [List.getElem_range] at hi2
      subst hi2
      have := hs _ hi1
      simp only [Addr.add_lit] at this
      exact ⟨this.1, by rw [Nat.add_assoc]; exact this.2.1, by rw [Nat.add_assoc]; exact this.2.2.1, by rw [Nat.add_assoc]; exact this.2.2.2⟩

end Go.Proofs.Ytafmkalepgcnkaa
