/-
  Layer 31: paths in memory: those that came in, and a row of paths of the call's own; what the sort leaves of memory.
-/
import Derived.Test.YtafmkalepgcnkaaCompare
import Derived.Test.YtafmkalepgcnkaaSrt
namespace Go.Proofs.Ytafmkalepgcnkaa
open Go.RowKit Go.Sort

/-- A slice of paths, somewhere. -/
def ChIn (w : World) (g : Option Addr) (l : List Ch) : Prop :=
  l = [] ∨ ∃ b off, g = some ⟨b, off, none⟩ ∧ b < w.heap.size ∧ ∀ (j : Nat) (c : Ch), l[j]? = some c →
    w.cell? ⟨b, off + j * 4, none⟩ = some (.int .i64 c.id) ∧ w.cell? ⟨b, off + j * 4 + 1, none⟩ = some (.int .i64 c.prio) ∧ w.cell? ⟨b, off + j * 4 + 2, none⟩ = some (.int .i64 c.cost) ∧ w.cell? ⟨b, off + j * 4 + 3, none⟩ = some (.bool c.room)
theorem ChIn.later {w w' : World} {g : Option Addr} {l : List Ch} (h : ChIn w g l) (hb : Below w.heap.size w w') : ChIn w' g l := by
  rcases h with h | ⟨b, off, rfl, hlt, hc⟩
  · exact .inl h
  · refine .inr ⟨b, off, rfl, Nat.lt_of_lt_of_le hlt hb.size, fun j c hj => ?_⟩
    have := hc j c hj
    exact ⟨(hb.cell hlt).trans this.1, (hb.cell hlt).trans this.2.1, (hb.cell hlt).trans this.2.2.1, (hb.cell hlt).trans this.2.2.2⟩
theorem ChIn.get {w : World} {g : Option Addr} {l : List Ch} (h : ChIn w g l) {k : Nat} (hk : k < l.length) : ∃ (b off : Nat) (i p c : Int) (r : Bool), g = some ⟨b, off, none⟩ ∧ l[k]? = some ⟨i, p, c, r⟩ ∧ b < w.heap.size ∧
    w.cell? ⟨b, off + k * 4, none⟩ = some (.int .i64 i) ∧ w.cell? ⟨b, off + k * 4 + 1, none⟩ = some (.int .i64 p) ∧ w.cell? ⟨b, off + k * 4 + 2, none⟩ = some (.int .i64 c) ∧ w.cell? ⟨b, off + k * 4 + 3, none⟩ = some (.bool r) := by
  rcases h with rfl | ⟨b, off, rfl, hlt, hc⟩
  · exact absurd hk (by simp)
  · have := hc k _ (List.getElem?_eq_getElem hk)
    exact ⟨b, off, _, _, _, _, rfl, List.getElem?_eq_getElem hk, hlt, this.1, this.2.1, this.2.2.1, this.2.2.2⟩

/-- Paths and their places, as cells. -/
def plV (s : List Pl) : List Value := s.flatMap encP
theorem plV_snoc (s : List Pl) (p : Pl) : plV (s ++ [p]) = plV s ++ encP p := by simp [plV]
theorem plV_length (s : List Pl) : (plV s).length = s.length * 5 := by
  induction s with
  | nil => rfl
  | cons p s ih => simp only [plV, List.flatMap_cons, List.length_append, List.length_cons] at ih ⊢; rw [ih, encP_len]; omega
theorem plV_get : ∀ (s : List Pl) (i : Nat) (p : Pl), s[i]? = some p → ∀ j, j < 5 → (plV s)[i * 5 + j]? = (encP p)[j]?
  | [], i, p, h, _, _ => by simp at h
  | q :: s, 0, p, h, j, hj => by
    simp only [List.getElem?_cons_zero, Option.some.injEq] at h
    subst h
    rw [plV, List.flatMap_cons, List.getElem?_append_left (by rw [encP_len]; omega), Nat.zero_mul, Nat.zero_add]
  | q :: s, i + 1, p, h, j, hj => by
    have ih := plV_get s i p (by simpa using h) j hj
    rw [plV, List.flatMap_cons, List.getElem?_append_right (by rw [encP_len]; omega), encP_len, show (i + 1) * 5 + j - 5 = i * 5 + j by omega]
    exact ih

/-- A row of paths of the call's own, at the head of its block. -/
def PlRow (w : World) (g : Option Addr) (s : List Pl) : Prop :=
  s = [] ∨ ∃ b cur, g = some ⟨b, 0, none⟩ ∧ w.heap[b]? = some (.cells cur 79 (0, 0)) ∧ ∀ (i : Nat) (p : Pl), s[i]? = some p → ∀ j, j < 5 → cur[i * 5 + j]? = (encP p)[j]?
theorem PlRow.later {w w' : World} {g : Option Addr} {s : List Pl} (h : PlRow w g s) (hb : Below w.heap.size w w') : PlRow w' g s := by
  rcases h with h | ⟨b, cur, rfl, hh, hc⟩
  · exact .inl h
  · exact .inr ⟨b, cur, rfl, (hb.block b (lt_block hh)).trans hh, hc⟩
/-- An append to a list of integers leaves it. -/
theorem PlRow.past {w w' : World} {g : Option Addr} {s : List Pl} {B n : Nat} {v : Value} {xs : List Value} (h : PlRow w g s) (hown : w.ownsRow B 3 1 v n xs) (hg : w.grownBy w' v.ownBlock) : PlRow w' g s := by
  rcases h with h | ⟨b, cur, rfl, hh, hc⟩
  · exact .inl h
  · refine .inr ⟨b, cur, rfl, ?_, hc⟩
    rw [hg.block b (lt_block hh) ?_]; exact hh
    rcases hown.2 with ⟨rfl, _⟩ | ⟨g', cap', cur', rfl, _, hg', _⟩
    · simp [Value.ownBlock]
    · intro e
      simp only [Value.ownBlock, Option.some.injEq] at e
      subst e
      rw [hh] at hg'
      simp at hg'
theorem PlRow.get {w : World} {g : Option Addr} {s : List Pl} (h : PlRow w g s) {k : Nat} (hk : k < s.length) : ∃ (b : Nat) (i p c : Int) (r : Bool) (a : Int), g = some ⟨b, 0, none⟩ ∧ s[k]? = some ⟨⟨i, p, c, r⟩, a⟩ ∧ b < w.heap.size ∧
    w.cell? ⟨b, k * 5, none⟩ = some (.int .i64 i) ∧ w.cell? ⟨b, k * 5 + 1, none⟩ = some (.int .i64 p) ∧ w.cell? ⟨b, k * 5 + 2, none⟩ = some (.int .i64 c) ∧ w.cell? ⟨b, k * 5 + 3, none⟩ = some (.bool r) ∧ w.cell? ⟨b, k * 5 + 4, none⟩ = some (.int .i64 a) := by
  rcases h with h | ⟨b, cur, hg, hh, hc⟩
  · rw [h] at hk; exact absurd hk (by simp)
  · have hs := List.getElem?_eq_getElem hk
    have c := hc k _ hs
    refine ⟨b, _, _, _, _, _, hg, hs, lt_block hh, ?_, ?_, ?_, ?_, ?_⟩ <;> rw [cell_of_row _ _ _ _ _ _ hh]
    · exact c 0 (by omega)
    · exact c 1 (by omega)
    · exact c 2 (by omega)
    · exact c 3 (by omega)
    · exact c 4 (by omega)

/-! ### What the sort leaves -/
theorem swk_block {w w' : World} {b : Nat} {d : Array Pl} {cur : Array Value} (h : SWK encP 5 w b 0 d w') (hh : w.heap[b]? = some (.cells cur 79 (0, 0))) : ∃ cur', w'.heap[b]? = some (.cells cur' 79 (0, 0)) := by
  obtain ⟨n, os, rfl⟩ := h
  have hlt := lt_block hh
  refine ⟨putCells id 0 (flatK encP 5 d) cur, ?_⟩
  unfold sortWorldK
  rw [heap_grow_old _ _ (by rw [size_putRowK]; exact hlt)]
  show (w.heap.modify b (onCells (putCells id 0 (flatK encP 5 d))))[b]? = _
  rw [Array.getElem?_modify, if_pos rfl, hh]
  rfl
theorem swk_below {w w' : World} {b : Nat} {d : Array Pl} {B : Nat} (h : SWK encP 5 w b 0 d w') (hb : b < w.heap.size) (hB : B ≤ b) : Below B w w' := by
  obtain ⟨n, os, rfl⟩ := h
  refine ⟨rfl, rfl, rfl, ?_, fun k hk => ?_⟩
  · unfold sortWorldK; rw [size_grow, size_putRowK]; exact Nat.le_add_right _ _
  · unfold sortWorldK
    rw [heap_grow_old _ _ (by rw [size_putRowK]; show k < w.heap.size; omega)]
    show (w.heap.modify b (onCells (putCells id 0 (flatK encP 5 d))))[k]? = w.heap[k]?
    rw [Array.getElem?_modify, if_neg (by omega)]
theorem holds_row {w : World} {b : Nat} {d : Array Pl} {cur : Array Value} (h : HoldsK encP 5 w b 0 d) (hh : w.heap[b]? = some (.cells cur 79 (0, 0))) : PlRow w (some ⟨b, 0, none⟩) d.toList := by
  refine .inr ⟨b, cur, rfl, hh, fun i p hi j hj => ?_⟩
  obtain ⟨hlt, he⟩ := List.getElem?_eq_some_iff.1 hi
  have hi' : i < d.size := by simpa using hlt
  have hc := (HoldsK.cell h hi' hj).1
  rw [cell_of_row _ _ _ _ _ _ hh, Nat.zero_add, getElem!_pos d i hi'] at hc
  rw [hc]
  have : d[i] = p := he
  rw [this, List.getElem?_eq_getElem (by rw [encP_len]; exact hj), getElem!_pos (encP p) j (by rw [encP_len]; exact hj)]
/-- A row that was made by appends holds its paths. -/
theorem owns_holds {w : World} {B b cap n : Nat} {s : List Pl} (h : w.ownsRow B 79 5 (.slice (some ⟨b, 0, none⟩) n cap) n (plV s)) : HoldsK encP 5 w b 0 s.toArray ∧ B ≤ b ∧ ∃ cur, w.heap[b]? = some (.cells cur 79 (0, 0)) := by
  rcases h.2 with ⟨hv, _⟩ | ⟨g, cap', cur, hv, hb, hg, hn, hm, hsz, ht⟩
  · cases hv
  · simp only [Value.slice.injEq, Option.some.injEq, Addr.mk.injEq, and_true] at hv
    obtain ⟨rfl, _, rfl⟩ := hv
    have hl : s.length = n := by have := h.1; rw [plV_length] at this; omega
    refine ⟨fun t ht' => ⟨?_, frozen_of_row _ _ _ _ _ hg⟩, hb, cur, hg⟩
    rw [size_flatK, List.size_toArray] at ht'
    rw [get_flatK _ _ _ _ (by rw [List.size_toArray]; exact ht'), cell_of_row _ _ _ _ _ _ hg, Nat.zero_add]
    have hd : t / 5 < s.length := by omega
    have hs := List.getElem?_eq_getElem hd
    have e1 := plV_get s (t / 5) _ hs (t % 5) (by omega)
    rw [show t / 5 * 5 + t % 5 = t by omega] at e1
    have e2 : (plV s)[t]? = cur[t]? := by
      rw [← ht, List.getElem?_take, if_pos (by omega), Array.getElem?_toList]
    rw [← e2, e1]
    have e3 : s.toArray[t / 5]! = s[t / 5] := by rw [getElem!_def, List.getElem?_toArray, hs]
    rw [e3, List.getElem?_eq_getElem (by rw [encP_len]; omega), getElem!_pos (encP s[t / 5]) (t % 5) (by rw [encP_len]; omega)]
    rfl

end Go.Proofs.Ytafmkalepgcnkaa
