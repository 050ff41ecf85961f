/-
  A step through a region that draws its order and holds calls that make memory: an operation that runs, one whose guard is false, a call; each by one law, the operation named by its number alone.
-/
import Derived.Deep.RegionHeld3
import Derived.Test.YtafmkalepgcnkaaChecked
namespace Go.Proofs.Ytafmkalepgcnkaa

section
variable {P : Program} {md : Region.Mode} {ops : Array Oper} {Q : Exit → Act → World → Prop} {S : World → Prop}

theorem map_some {α β : Type} {f : α → β} {o : Option α} {b : β} (h : o.map f = some b) : ∃ a, o = some a ∧ f a = b := by
  cases o with
  | none => cases h
  | some a => exact ⟨a, rfl, by simpa using h⟩

/-- The operation runs, and yields in every world that meets S. -/
theorem stepRuns {i d : Nat} {v : Value} {fuel : Nat} {listed : Array Bool} {a : Act} {w : World} (hd : (ops[i]?).map (fun o => o.dst) = some (some d))
    (hw : (ops[i]?).map (fun o => Region.wanted o (yielded ops a.tmps)) = some true) (hs : Region.noSelect ops = true) (hf : Region.free md ops listed i = true) (hr : (Region.ready md ops listed).contains i = true)
    (hQ : ∀ c a w, Q (.panic c) (a.put (some d) v) w → Q (.panic c) a w) (hS : S w) (hy : ∀ w, S w → (ops[i]?).map (fun o => (execOp a.eval o).run P w) = some (.ok (.value v) w))
    (h : wpAnyH P md ops Q S fuel (listed.setIfInBounds i true) ⟨a.tmps.setIfInBounds d v, a.defers⟩ w) : wpAnyH P md ops Q S (fuel + 1) listed a w := by
  obtain ⟨o, ho, hod⟩ := map_some hd
  rw [ho] at hw
  simp only [Option.map_some, Option.some.injEq] at hw
  refine wpAnyH_take (oi := o) (v := v) ho hs hf hr ?_ (.inl ⟨hw, fun w' hS' => ?_⟩) hS ?_
  · rw [hod]; exact hQ
  · have := hy w' hS'; rw [ho] at this; simpa using this
  · rw [hod]; exact h

/-- The operation's guard is false. -/
theorem stepSkips {i d : Nat} {fuel : Nat} {listed : Array Bool} {a : Act} {w : World} (hd : (ops[i]?).map (fun o => o.dst) = some (some d))
    (hw : (ops[i]?).map (fun o => Region.wanted o (yielded ops a.tmps)) = some false) (hs : Region.noSelect ops = true) (hf : Region.free md ops listed i = true) (hr : (Region.ready md ops listed).contains i = true)
    (hQ : ∀ c a w, Q (.panic c) (a.put (some d) undef) w → Q (.panic c) a w) (hS : S w)
    (h : wpAnyH P md ops Q S fuel (listed.setIfInBounds i true) ⟨a.tmps.setIfInBounds d undef, a.defers⟩ w) : wpAnyH P md ops Q S (fuel + 1) listed a w := by
  obtain ⟨o, ho, hod⟩ := map_some hd
  rw [ho] at hw
  simp only [Option.map_some, Option.some.injEq] at hw
  refine wpAnyH_take (oi := o) (v := undef) ho hs hf hr ?_ (.inr ⟨hw, rfl⟩) hS ?_
  · rw [hod]; exact hQ
  · rw [hod]; exact h

end
end Go.Proofs.Ytafmkalepgcnkaa
