/-
  The law AddrsDoes: its argument that is a slice of steps, and a table that is none.
-/
import Derived.Test.YtafmkalepgcnkaaDoAny
namespace Go.Proofs.Ytafmkalepgcnkaa
open Go.RowKit

/-- A step: kind, side, address. -/
structure St where
  kind : Int
  own : Bool
  addr : Int

/-- A slice of steps, somewhere. -/
def OpsArg (w : World) (g : Option Addr) (l : List St) : Prop :=
  l = [] ∨ ∃ b off, g = some ⟨b, off, none⟩ ∧ b < w.heap.size ∧ ∀ (j : Nat) (s : St), l[j]? = some s →
    w.cell? ⟨b, off + j * 3, none⟩ = some (.int .i64 s.kind) ∧ w.cell? ⟨b, off + j * 3 + 1, none⟩ = some (.bool s.own) ∧ w.cell? ⟨b, off + j * 3 + 2, none⟩ = some (.int .i64 s.addr)

theorem OpsArg.later {w w' : World} {g : Option Addr} {l : List St} (h : OpsArg w g l) (hb : Below w.heap.size w w') : OpsArg w' g l := by
  rcases h with h | ⟨b, off, rfl, hlt, hc⟩
  · exact .inl h
  · refine .inr ⟨b, off, rfl, Nat.lt_of_lt_of_le hlt hb.size, fun j s hj => ?_⟩
    have := hc j s hj
    exact ⟨(hb.cell hlt).trans this.1, (hb.cell hlt).trans this.2.1, (hb.cell hlt).trans this.2.2⟩

theorem OpsArg.get {w : World} {g : Option Addr} {l : List St} (h : OpsArg w g l) {k : Nat} (hk : k < l.length) : ∃ (b off : Nat) (kd : Int) (ow : Bool) (ad : Int), g = some ⟨b, off, none⟩ ∧ l[k]? = some ⟨kd, ow, ad⟩ ∧ b < w.heap.size ∧
    w.cell? ⟨b, off + k * 3, none⟩ = some (.int .i64 kd) ∧ w.cell? ⟨b, off + k * 3 + 1, none⟩ = some (.bool ow) ∧ w.cell? ⟨b, off + k * 3 + 2, none⟩ = some (.int .i64 ad) := by
  rcases h with rfl | ⟨b, off, rfl, hlt, hc⟩
  · exact absurd hk (by simp)
  · have := hc k _ (List.getElem?_eq_getElem hk)
    exact ⟨b, off, _, _, _, rfl, List.getElem?_eq_getElem hk, hlt, this.1, this.2.1, this.2.2⟩

/-- A step that lies in a block of the call's own. -/
def StepAt (w : World) (bo : Nat) (kd : Int) (ow : Bool) (ad : Int) : Prop := w.heap[bo]? = some (.cells #[.int .i64 kd, .bool ow, .int .i64 ad] 48)
theorem StepAt.made (w : World) (kd : Int) (ow : Bool) (ad : Int) : StepAt (w.alloc (.cells #[.int .i64 kd, .bool ow, .int .i64 ad] 48)) w.heap.size kd ow ad := heap_alloc_new w _
theorem StepAt.later {w w' : World} {bo : Nat} {kd : Int} {ow : Bool} {ad : Int} (h : StepAt w bo kd ow ad) (hb : Below w.heap.size w w') : StepAt w' bo kd ow ad := (hb.block bo (lt_block h)).trans h
theorem StepAt.tab {w w' : World} {bo b : Nat} {kd : Int} {ow : Bool} {ad : Int} (h : StepAt w bo kd ow ad) (hg : w.grownBy w' (some b)) (hne : bo ≠ b) : StepAt w' bo kd ow ad := by
  unfold StepAt
  rw [hg.block bo (lt_block h) (by intro e; simp only [Option.some.injEq] at e; exact hne (by first | exact e | exact e.symm))]; exact h
theorem StepAt.cells {w : World} {bo : Nat} {kd : Int} {ow : Bool} {ad : Int} (h : StepAt w bo kd ow ad) : w.cell? ⟨bo, 0, none⟩ = some (.int .i64 kd) ∧ w.cell? ⟨bo, 1, none⟩ = some (.bool ow) ∧ w.cell? ⟨bo, 2, none⟩ = some (.int .i64 ad) :=
  ⟨by rw [cell_of_row _ _ _ _ _ _ h]; rfl, by rw [cell_of_row _ _ _ _ _ _ h]; rfl, by rw [cell_of_row _ _ _ _ _ _ h]; rfl⟩

theorem below_draw (w : World) (n : Nat) : Below w.heap.size w (w.drewN n) := below_drewN n (Below.refl _ _)
theorem flip {f : FuncId} {args : Array Value} {w : World} {v : Value} (h : Calls Try.prog f args w fun e w' => e = .returned v ∧ w = w') : Calls Try.prog f args w fun e w' => e = .returned v ∧ w' = w :=
  h.mono fun _ _ ⟨h1, h2⟩ => ⟨h1, h2.symm⟩
theorem q_own {w : World} {b : Nat} {O R : List Bool} {xs : List Int} (hT : TabAt w b O R) (hS : Same xs O) (a : Int) (n : Nat) : Calls Try.prog 28 #[.pointer (some ⟨b, 0, none⟩), .bool true, .int .i64 a] (w.drewN n) fun e w' => e = .returned (.bool (inL xs a)) ∧ w' = w.drewN n := by
  have h := flip (has_any b true a O R _ (hT.below (below_draw w n)))
  rwa [show sHas (sideOf true O R) a = inL xs a from hS.has a] at h
theorem q_other {w : World} {b : Nat} {O R : List Bool} {xs : List Int} (hT : TabAt w b O R) (hS : Same xs R) (a : Int) (n : Nat) : Calls Try.prog 28 #[.pointer (some ⟨b, 0, none⟩), .bool false, .int .i64 a] (w.drewN n) fun e w' => e = .returned (.bool (inL xs a)) ∧ w' = w.drewN n := by
  have h := flip (has_any b false a O R _ (hT.below (below_draw w n)))
  rwa [show sHas (sideOf false O R) a = inL xs a from hS.has a] at h
theorem q_list {w : World} {g : Option Addr} {c : Nat} {xs : List Int} (hC : RowC w g c xs) (h4 : xs.length ≤ 4) (a : Int) (n : Nat) : Calls Try.prog 29 #[.slice g xs.length c, .int .i64 a] (w.drewN n) fun e w' => e = .returned (.bool (inL xs a)) ∧ w' = w.drewN n :=
  flip (inList_any g c xs a _ (hC.later (below_draw w n)).row3.row (by omega))

theorem places_nil (w : World) : Calls Try.prog 23 #[.pointer none] w fun e w' => e = .returned (.slice none 0 0) ∧ w = w' := by
  go_enter Try.func23, Try.ntmps23
  go_wp2_with (go_at_call 22; refine (alls_nil _ _).mono ?_; rintro e w' ⟨rfl, rfl⟩)
  go_loopw [3, 11] (fun v t wr => v = .slice none 0 0 ∧ t = .int .i64 0 ∧ w = wr) (fun _ _ _ => 0)
  case atStart => exact ⟨rfl, rfl, rfl⟩
  case round =>
    obtain ⟨rfl, rfl, rfl⟩ := hrel
    go_wp2_with fail
    go_ret
    exact ⟨rfl, rfl⟩
end Go.Proofs.Ytafmkalepgcnkaa
