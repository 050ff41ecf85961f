/-
  An argument that is a slice of structs of one-cell fields: its cells, element by element, field by field.
-/
import Derived.Test.YtafmkalepgcnkaaDoesPre
import Derived.Deep.Slices
import Derived.Deep.Fields
import Derived.ChangeSame
namespace Go.Proofs.Ytafmkalepgcnkaa
open Go.RowKit Go.ChangeShapes Go.WideShapes Go.Deep

section
variable {H : Type} {enc : TypeId × Value → H} {P : Program} {w : World} {base : Nat} {spare : Nat → Bool} {held : Bool}
/-- What is known of a slice of structs that came in: it is nil; or each element's field lies in its cell and reads by its type. -/
theorem structs_cells {t e : TypeId} {fs : Array Field} {fuel : Nat} {g : Option Addr} {len cap : Nat} {x : DataW H × List MemPlace} (ht : P.underlying t = some (.slice e)) (he : P.underlying e = some (.struct fs))
    (hone : oneCellFields P fs = true) (hC : P.cellsOf e = fs.size) (h : DataW.trod enc P w base spare held fuel t (Value.slice g len cap).cells.toList = some x) :
    (g = none ∧ len = 0 ∧ cap = 0) ∨ ∃ a, g = some a ∧ len ≤ cap ∧ cap ≤ maxLen ∧
      ∀ i, i < len → ∀ (j : Nat) (f : Field), fs[j]? = some f → ∃ (v : Value) (y : DataW H × List MemPlace) (n : Nat), w.cell? (a.add (i * fs.size + j)) = some v ∧ DataW.trod enc P w base spare held n f.type [v] = some y := by
  rcases open_slice ht h with ⟨h0, _⟩ | ⟨a, l, c, m, n, D, Pl, hcs, _, hl, hm, hmm, _, hi⟩
  · simp only [Value.cells, List.cons.injEq, Value.slice.injEq, and_true] at h0
    exact .inl h0
  · simp only [Value.cells, List.cons.injEq, Value.slice.injEq, and_true] at hcs
    obtain ⟨rfl, rfl, rfl⟩ := hcs
    refine .inr ⟨a, rfl, hl, hm, fun i him j f hj => ?_⟩
    obtain ⟨cs, hc, ht'⟩ := hi i (by rw [hmm]; split <;> omega)
    rw [hC] at hc
    obtain ⟨ys, n', _, _, hlen, hyl, hf⟩ := DataW.trod_struct he ht'
    obtain ⟨_, _, hat⟩ := World.cells?_some hc
    obtain ⟨ho, hk⟩ := hone_of hone j f hj
    have hjl : j < fs.size := (Array.getElem?_eq_some_iff.1 hj).1
    have hcl : cs.length = fs.size := by rw [hlen, hC]
    have h1 := hf j f hj
    rw [ho, hk, take1_drop cs j (.bool false) (by omega), List.getElem?_eq_getElem (show j < ys.length by omega)] at h1
    refine ⟨cs.getD j (.bool false), _, n', ?_, h1⟩
    have := hat j hjl
    rw [← Go.Deep.add_add, this, List.getD_eq_getElem?_getD, List.getElem?_eq_getElem (show j < cs.length by omega)]
    rfl
end

/-- The steps that came in. -/
theorem ops_of {H : Type} {enc : TypeId × Value → H} {w : World} {base : Nat} {spare : Nat → Bool} {held : Bool} {fuel : Nat} {g : Option Addr} {len cap : Nat} {x : DataW H × List MemPlace}
    (h : DataW.trod enc Try.prog w base spare held fuel 43 (Value.slice g len cap).cells.toList = some x) : ∃ l : List St, l.length = len ∧ OpsArg w g l := by
  rcases structs_cells Try.underlying43 Try.underlying48 (by kernel_rfl) (by kernel_rfl) h with ⟨_, rfl, _⟩ | ⟨a, rfl, hl, hm, hc⟩
  · exact ⟨[], rfl, .inl rfl⟩
  · by_cases h0 : len = 0
    · subst h0; exact ⟨[], rfl, .inl rfl⟩
    · have key : ∀ i, ∃ s : St, i < len → w.cell? (a.add (i * 3)) = some (.int .i64 s.kind) ∧ w.cell? (a.add (i * 3 + 1)) = some (.bool s.own) ∧ w.cell? (a.add (i * 3 + 2)) = some (.int .i64 s.addr) := by
        intro i
        by_cases hi : i < len
        · obtain ⟨v0, y0, n0, c0, t0⟩ := hc i hi 0 _ rfl
          obtain ⟨v1, y1, n1, c1, t1⟩ := hc i hi 1 _ rfl
          obtain ⟨v2, y2, n2, c2, t2⟩ := hc i hi 2 _ rfl
          obtain ⟨z0, e0, _⟩ := DataW.trod_int Try.underlying3 t0
          obtain ⟨z1, e1, _⟩ := DataW.trod_bool Try.underlying4 t1
          obtain ⟨z2, e2, _⟩ := DataW.trod_int Try.underlying3 t2
          simp only [List.cons.injEq, and_true] at e0 e1 e2
          subst e0 e1 e2
          exact ⟨⟨z0, z1, z2⟩, fun _ => ⟨c0, c1, c2⟩⟩
        · exact ⟨⟨0, false, 0⟩, fun h => absurd h hi⟩
      obtain ⟨s, hs⟩ : ∃ s : Nat → St, ∀ i, i < len → w.cell? (a.add (i * 3)) = some (.int .i64 (s i).kind) ∧ w.cell? (a.add (i * 3 + 1)) = some (.bool (s i).own) ∧ w.cell? (a.add (i * 3 + 2)) = some (.int .i64 (s i).addr) := ⟨fun i => (key i).choose, fun i => (key i).choose_spec⟩
      obtain ⟨b, off, spot⟩ := a
      have hsp := World.cell?_spot (hs 0 (by omega)).1
      simp only [Addr.add] at hsp
      have hspot : spot = none := by simpa using hsp
      subst hspot
      refine ⟨(List.range len).map s, by simp, .inr ⟨b, off, rfl, World.block_lt_of_cell? w _ (hs 0 (by omega)).1, fun j st hj => ?_⟩⟩
      rw [List.getElem?_map] at hj
      obtain ⟨i, hi, rfl⟩ := Option.map_eq_some_iff.1 hj
      obtain ⟨hi1, hi2⟩ := List.getElem?_eq_some_iff.1 hi
      simp only [List.length_range] at hi1
      simp only [List.getElem_range] at hi2
      subst hi2
      have := hs _ hi1
      simp only [Addr.add_lit] at this
      exact ⟨this.1, by rw [Nat.add_assoc]; exact this.2.1, by rw [Nat.add_assoc]; exact this.2.2⟩

end Go.Proofs.Ytafmkalepgcnkaa
